/- The document's trees of pointers in memory; its reading; fail. -/
import Derived.Test.YtcnjmkjfgghgoaaZt13
import Derived.Test.YtcnjmkjfgghgoaaZt11
import Derived.Test.YtcnjmkjfgghgoaaZt26
import Derived.Lib.SlBytesConst
import Derived.Test.YtcnjmkjfgghgoaaZt7
import Derived.Test.YtcnjmkjfgghgoaaZt9
section
/- awake: two short texts are read as they should. -/
namespace Go.Proofs.Ytcnjmkjfgghgoaa
open Go.RowKit Go.Ln Go.Mp Go.Tr Go.Shelf
set_option linter.unusedVariables false
set_option maxRecDepth 100000
set_option maxHeartbeats 4000000
theorem byts_lit (w : World) (l : List UInt8) (C : Array Value) (k n : Nat) (hC : C.toList = l.map fun c => Value.int .u8 (c.toNat : Int)) (hn : n = l.length) : BytS (w.alloc (.cells C 5 (k, k + 1))) w.heap.size (.slice (some ⟨w.heap.size, 0, none⟩) n n) l := by
  subst hn
  refine ⟨_, l.length, rfl, Nat.le_refl _, (fun h => by cases h), fun i c hc => ⟨0, rfl, ?_⟩⟩
  rw [Nat.zero_add]
  refine (cell_of_row _ _ i _ _ _ (heap_alloc_new w _)).trans ?_
  rw [← Array.getElem?_toList, hC, List.getElem?_map, hc]; rfl
theorem TM.elem {w : World} {B : Nat} {F : Nat → Prop} {ao : Option Addr} {n cap : Nat} {L : List TrX} (h : TM w B F (.slice ao n cap) L) {i : Nat} {x : TrX} (hx : L[i]? = some x) (hs : x.1.size ≤ 4096) :
    ∃ g no nc, ao = some ⟨g, 0, none⟩ ∧ n = L.length ∧ w.cell? ⟨g, i, none⟩ = some (.slice no x.1.size nc) ∧ x.2.1 = .slice no x.1.size nc ∧ NdV w (.slice no x.1.size nc) (lay 0 x.1) ∧ g < w.heap.size ∧ x.1.size ≤ nc := by
  obtain ⟨R, h1, h2⟩ := h.el i x hx
  have hRl : R.length = x.1.size := by rw [← lay_length 0 x.1, ← h1, List.length_map]
  obtain ⟨no, nc, hv⟩ := ownsRow_shape h2.row
  obtain ⟨g, e, hn, _, hc, _⟩ := ownsRow_cell h.row (j := i) (u := x.2.1) (by rw [List.getElem?_map, hx]; rfl)
  have hN := h2.reads (by omega) (fun j y hy => by
    have hm : y.1 ∈ lay 0 x.1 := by rw [← h1]; exact List.mem_map_of_mem (List.mem_of_getElem? hy)
    have := (bounds_lay 0 x.1 _ hm).1
    omega)
  rw [h1] at hN
  rw [hRl] at hv
  have hcap : x.1.size ≤ nc := by
    have hr := h2.row
    rw [hv, hRl] at hr
    obtain ⟨n0, r0, e0, _⟩ := lay_head 0 x.1
    cases hR0 : R with
    | nil => rw [hR0] at h1; rw [e0] at h1; cases h1
    | cons y R' =>
      obtain ⟨_, _, _, hcc, _⟩ := ownsRow_cell hr (j := 0 * 6 + 0) (u := .int .i64 y.1.kind) (by rw [ncs_at (x := y) (by rw [hR0]; rfl) 0 (by omega)]; rfl)
      exact hcc
  refine ⟨g, no, nc, e, hn, by rw [hc, hv], hv, by rw [← hv]; exact hN, ?_, hcap⟩
  rw [e] at h
  exact (ownsRow_ge h.row rfl).2
theorem one_of {α β : Type _} {L : List (α × β)} {a : α} (h : L.map (·.1) = [a]) : ∃ x, L = [x] ∧ x.1 = a := by
  match L, h with
  | [x], h => exact ⟨x, rfl, by simpa using h⟩
def txt1 : List UInt8 := [107, 105, 110, 100, 58, 32, 83, 101, 114, 118, 105, 99, 101, 10, 101, 110, 100, 115, 58, 10, 45, 32, 101, 49, 10, 45, 32, 101, 50, 10]
def txt2 : List UInt8 := [97, 58, 32, 49, 10, 32, 98, 58, 32, 50, 10]
def tree1 : T := .node 2 ⟨#[]⟩ ⟨#[]⟩ false 1 [.node 1 ⟨#[107, 105, 110, 100]⟩ ⟨#[83, 101, 114, 118, 105, 99, 101]⟩ false 1 [], .node 3 ⟨#[101, 110, 100, 115]⟩ ⟨#[]⟩ false 3 [.node 1 ⟨#[]⟩ ⟨#[101, 49]⟩ false 3 [], .node 1 ⟨#[]⟩ ⟨#[101, 50]⟩ false 4 []]]
set_option maxRecDepth 1000000 in
theorem parse1 : parseR txt1 = .ok [tree1] := by kernel_rfl
set_option maxRecDepth 1000000 in
theorem parse2 : parseR txt2 = .error (0, (2, 90)) := by kernel_rfl
theorem may1 : okT 16 tree1 ∧ mayR (lay 0 tree1) = true ∧ high tree1 = 3 ∧ tree1.size = 5 := by
  have h : okT 16 tree1 := by
    have hne : (⟨#[107, 105, 110, 100]⟩ : ByteArray) ≠ ⟨#[101, 110, 100, 115]⟩ := by intro e; injection e with e; injection e with e; injection e with e; cases e
    simp [okT, tree1, T.key, hne]
  exact ⟨h, mayR_lay h (by decide) nil_toList, by decide, by decide⟩
theorem get1 : getR (lay 0 tree1) 0 ⟨#[101, 110, 100, 115]⟩ = some 2 := by
  simp [getR, lay, lays, kidAts, tree1, hit, T.size, sizes, Lib.toList_data]
theorem awake_any (w : World) (m : Int) (hm : w.cell? ⟨0, 0, none⟩ = some (.int .i64 m)) : Calls Try.prog 19 #[] w fun e w' => e = .returned (.bool true) ∧ Tch No w w' := by
  obtain ⟨ob, ho, _⟩ := cell_obj hm
  have h0w := heap_lt ho
  have hs1 := parse_any w.heap.size _ txt1 (w.alloc (.cells #[.int .u8 107, .int .u8 105, .int .u8 110, .int .u8 100, .int .u8 58, .int .u8 32, .int .u8 83, .int .u8 101, .int .u8 114, .int .u8 118, .int .u8 105, .int .u8 99, .int .u8 101, .int .u8 10, .int .u8 101, .int .u8 110, .int .u8 100, .int .u8 115, .int .u8 58, .int .u8 10, .int .u8 45, .int .u8 32, .int .u8 101, .int .u8 49, .int .u8 10, .int .u8 45, .int .u8 32, .int .u8 101, .int .u8 50, .int .u8 10] 5 (30, 31))) m (byts_lit w txt1 _ 30 30 rfl rfl) (by simp) ((Tch.alloc No w _).cell_some hm id)
  rw [parse1] at hs1
  obtain ⟨m1, m2, m3, m4⟩ := may1
  have kc := fun (w : World) (C : Array Value) (n c : Nat) => Lib.run_convert_bytes_const (P := Try.prog) w 41 5 C n c Try.underlying41 Try.underlying5
  replace hs1 := Lib.hid hs1
  replace hm := Lib.hid hm
  replace ho := Lib.hid ho
  replace h0w := Lib.hid h0w
  replace m1 := Lib.hid m1
  replace m2 := Lib.hid m2
  replace m3 := Lib.hid m3
  replace m4 := Lib.hid m4
  go_enter Try.func19, Try.ntmps19
  go_upto_region 2 with (first
    | (go_at_call 16; (with_reducible refine hs1.out.mono ?_); rintro e w1 h1; obtain ⟨v, F, L, rfl, hL, hT, t1⟩ := h1; obtain ⟨vo, vc, rfl⟩ := ownsRow_shape hT.row; replace hL := Lib.hid hL; replace hT := Lib.hid hT; replace t1 := Lib.hid t1)
    | fail)
  clear hs1
  obtain ⟨x, hx, hx1⟩ : ∃ x, L = [x] ∧ x.1 = tree1 := by
    exact one_of hL.out
  subst hx
  obtain ⟨w2, hw2⟩ : ∃ w2, w2 = w1.alloc (.cells #[.int .i64 0, .int .i64 0, .int .i64 0] 28) := ⟨_, rfl⟩
  obtain ⟨c2, hc2⟩ : ∃ c2, c2 = w1.heap.size := ⟨_, rfl⟩
  rw [← hw2, ← hc2]
  have t12 : Tch No w1 w2 := by rw [hw2]; exact Tch.alloc No w1 _
  have g2 : w2.heap[c2]? = some (.cells #[.int .i64 0, .int .i64 0, .int .i64 0] 28) := by rw [hw2, hc2]; exact heap_alloc_new w1 _
  have t02 : Tch No w w2 := ((Tch.alloc No w _).trans t1.out (fun _ h => h.elim)).trans t12 (fun _ h => h.elim)
  have hT2 := hT.out.tch t12 (fun _ _ h => h)
  have hs2 := parse_any w2.heap.size _ txt2 (w2.alloc (.cells #[.int .u8 97, .int .u8 58, .int .u8 32, .int .u8 49, .int .u8 10, .int .u8 32, .int .u8 98, .int .u8 58, .int .u8 32, .int .u8 50, .int .u8 10] 5 (11, 12))) m (byts_lit w2 txt2 _ 11 11 rfl rfl) (by simp) ((Tch.alloc No w2 _).cell_some (t02.cell_some hm.out id) id)
  rw [parse2] at hs2
  replace hw2 := Lib.hid hw2
  replace hc2 := Lib.hid hc2
  replace t12 := Lib.hid t12
  replace g2 := Lib.hid g2
  replace t02 := Lib.hid t02
  replace hT2 := Lib.hid hT2
  replace hs2 := Lib.hid hs2
  replace hx1 := Lib.hid hx1
  go_upto_region 3 with (first
    | (go_at_call 16; (with_reducible refine hs2.out.mono ?_); rintro e w3 h3; obtain ⟨rfl, t3⟩ := h3; replace t3 := Lib.hid t3)
    | fail)
  clear hs2
  obtain ⟨w4, hw4⟩ : ∃ w4, w4 = w3.alloc (.cells #[.int .i64 0, .int .i64 2, .int .i64 90] 28) := ⟨_, rfl⟩
  obtain ⟨c4, hc4⟩ : ∃ c4, c4 = w3.heap.size := ⟨_, rfl⟩
  have t34 : Tch No w3 w4 := by rw [hw4]; exact Tch.alloc No w3 _
  have g4 : w4.heap[c4]? = some (.cells #[.int .i64 0, .int .i64 2, .int .i64 90] 28) := by rw [hw4, hc4]; exact heap_alloc_new w3 _
  have t24 : Tch No w2 w4 := ((Tch.alloc No w2 _).trans t3.out (fun _ h => h.elim)).trans t34 (fun _ h => h.elim)
  have t04 : Tch No w w4 := t02.out.trans t24 (fun _ h => h.elim)
  have g24 := (t24.block c2 (heap_lt g2.out) id).trans g2.out
  have hT4 := hT2.out.tch t24 (fun _ _ h => h)
  obtain ⟨gv, no, nc, rfl, _, cv, ev, hN4, _, _⟩ := hT4.elem (i := 0) rfl (by rw [hx1.out]; decide)
  rw [hx1.out, m4.out] at cv hN4
  rw [hx1.out, m4.out] at ev
  obtain ⟨R, hR1, hR2⟩ := hT4.el 0 x rfl
  rw [hx1.out] at hR1
  rw [ev] at hR2
  have node : ∀ (i : Nat) (n : Nd), (lay 0 tree1)[i]? = some n → ∃ g kv, no = some ⟨g, 0, none⟩ ∧ ∀ j u, j < 6 → (Go.Proofs.Ytcnjmkjfgghgoaa.nc (n, kv))[j]? = some u → w4.cell? ⟨g, i * 6 + j, none⟩ = some u := fun i n hn => by
    rw [← hR1, List.getElem?_map] at hn
    cases hq : R[i]? with
    | none => rw [hq] at hn; cases hn
    | some y =>
      rw [hq] at hn
      obtain ⟨g, cap, e, hc⟩ := hR2.at hq
      simp only [Value.slice.injEq] at e
      obtain ⟨rfl, _, rfl⟩ := e
      refine ⟨g, y.2, rfl, fun j u hj hu => (hc j u hj ?_).1⟩
      have : y.1 = n := by simpa using hn
      rw [← this] at hu; exact hu
  obtain ⟨g5, kv2, rfl, nd2⟩ := node 2 _ rfl
  obtain ⟨g5', kv4, e5, nd4⟩ := node 4 _ rfl
  cases e5
  have q2 : w4.cell? ⟨g5, 12, none⟩ = some (.int .i64 3) := nd2 0 _ (by omega) rfl
  have q4 : w4.cell? ⟨g5, 26, none⟩ = some (.string ⟨#[101, 50]⟩) := nd4 2 _ (by omega) rfl
  have q5 : w4.cell? ⟨g5, 28, none⟩ = some (.int .i64 4) := nd4 4 _ (by omega) rfl
  have hG := get_any (lay 0 tree1) _ 0 ⟨#[101, 110, 100, 115]⟩ w4 hN4
  rw [get1] at hG
  replace hG : Calls Try.prog 31 #[.slice (some ⟨g5, 0, none⟩) 5 nc, .int .i64 0, .string ⟨#[101, 110, 100, 115]⟩] w4 fun e w' => e = .returned (.tuple #[.int .i64 2, .bool true]) ∧ w' = w4 := hG
  have hM := may_any (lay 0 tree1) _ w4 hN4
  rw [m2.out] at hM
  have hD : ∀ w', Below w4.heap.size w4 w' → Calls Try.prog 28 #[.slice (some ⟨g5, 0, none⟩) 5 nc] w' fun e w2 => e = .returned (.int .i64 3) ∧ Below w'.heap.size w' w2 := fun w' hb => by
    have h := depth_may m1.out m2.out (hN4.tch (Tch.of_below hb : Tch No w4 w'))
    rw [m3.out] at h
    exact h
  obtain ⟨x0, x1, x2⟩ : w4.cell? ⟨c2, 0, none⟩ = some (.int .i64 0) ∧ w4.cell? ⟨c2, 1, none⟩ = some (.int .i64 0) ∧ w4.cell? ⟨c2, 2, none⟩ = some (.int .i64 0) := ⟨cell_of_row _ _ 0 _ _ _ g24, cell_of_row _ _ 1 _ _ _ g24, cell_of_row _ _ 2 _ _ _ g24⟩
  obtain ⟨y0, y1, y2⟩ : w4.cell? ⟨c4, 0, none⟩ = some (.int .i64 0) ∧ w4.cell? ⟨c4, 1, none⟩ = some (.int .i64 2) ∧ w4.cell? ⟨c4, 2, none⟩ = some (.int .i64 90) := ⟨cell_of_row _ _ 0 _ _ _ g4, cell_of_row _ _ 1 _ _ _ g4, cell_of_row _ _ 2 _ _ _ g4⟩
  rw [show (w3.alloc (.cells #[.int .i64 0, .int .i64 2, .int .i64 90] 28)) = w4 from hw4.symm, ← hc4]
  replace hw4 := Lib.hid hw4
  replace hc4 := Lib.hid hc4
  replace t34 := Lib.hid t34
  replace g4 := Lib.hid g4
  replace t24 := Lib.hid t24
  replace t04 := Lib.hid t04
  replace g24 := Lib.hid g24
  replace hT4 := Lib.hid hT4
  replace ev := Lib.hid ev
  replace hN4 := Lib.hid hN4
  replace hR1 := Lib.hid hR1
  replace hR2 := Lib.hid hR2
  replace hG := Lib.hid hG
  replace hM := Lib.hid hM
  replace hD := Lib.hid hD
  clear node nd2 nd4 kc
  go_wp2_with (first
    | (go_at_call 31; (with_reducible refine hG.out.mono ?_); rintro e w5 ⟨rfl, rfl⟩)
    | (go_at_call 21; (with_reducible refine hM.out.mono ?_); rintro e w6 ⟨rfl, hb6⟩; have t46 : Tch No _ w6 := Tch.of_below hb6; have cv6 := t46.cell_some cv id; have hD6 := Lib.hid (hD.out w6 hb6); replace hb6 := Lib.hid hb6; replace t46 := Lib.hid t46)
    | (go_at_call 28; (with_reducible refine hD6.out.mono ?_); rintro e w7 ⟨rfl, hb7⟩; replace hb7 := Lib.hid hb7)
    | fail)
  go_ret
  exact ⟨rfl, (t04.out.trans t46.out (fun _ h => h.elim)).trans (Tch.of_below (S := No) hb7.out) (fun _ h => h.elim)⟩
end Go.Proofs.Ytcnjmkjfgghgoaa
end

section
/- What a refusal tells; documents one by one. No program in sight. -/
namespace Go.Tr
open Go.RowKit
set_option linter.unusedVariables false
def ErrOk (l : List Tok) (e : Fa) : Prop := e.2 ≠ 0 ∧ ∃ t ∈ l, t.line = e.1
def ErrX (l : List Tok) (f : Nat) : Prop := ∀ (kind col : Int) (at' d made : Nat) (acc : List T) (e : Fa), loop l f kind col at' d made acc = .error e → ErrOk l e
theorem has_some {l : List Tok} {at' : Nat} (h : has ((l[at']?).getD zero) = true) : ∃ t, l[at']? = some t := by
  cases ht : l[at']? with
  | none => rw [ht] at h; exact absurd h (by decide)
  | some t => exact ⟨t, rfl⟩
theorem block_errx {l : List Tok} {f : Nat} (ih : ErrX l f) {at' d made : Nat} {key : ByteArray} {e : Fa} (hh : has ((l[at']?).getD zero) = true) (hr : blockW (loop l f) l at' d made key = .error e) : ErrOk l e := by
  obtain ⟨t, ht⟩ := has_some hh
  unfold blockW at hr
  rw [ht] at hr
  dsimp only at hr
  split at hr
  · cases hr
    exact ⟨by simp, t, List.mem_of_getElem? ht, rfl⟩
  · split at hr
    · cases hr
    · split at hr
      · rename_i he
        cases hr
        exact ih _ _ _ _ _ _ _ he
      · cases hr
theorem value_errx {l : List Tok} {f : Nat} (ih : ErrX l f) {is : Bool} {u : Tok} {at' d made : Nat} {key : ByteArray} {e : Fa} (hu : u ∈ l) (hr : valueW (loop l f) l is u at' d made key = .error e) : ErrOk l e := by
  unfold valueW at hr
  split at hr
  · rename_i h
    rw [Bool.and_eq_true] at h
    exact block_errx ih h.2 hr
  · split at hr
    · cases hr
      exact ⟨by simp, u, hu, rfl⟩
    · cases hr
theorem loop_errx (l : List Tok) : ∀ f, ErrX l f := by
  intro f
  induction f with
  | zero => intro kind col at' d made acc e h; cases h
  | succ f ih =>
    intro kind col at' d made acc e h
    unfold loop at h
    split at h
    · cases h
    · rename_i u hu
      have hm := List.mem_of_getElem? hu
      split at h
      · split at h
        · cases h
          exact ⟨by simp, u, hm, rfl⟩
        · split at h
          · rename_i he
            cases h
            exact value_errx ih hm he
          · exact ih _ _ _ _ _ _ _ h
      · cases h
theorem doc_errx {l : List Tok} (hne : l ≠ []) {e : Fa} (h : doc l = .error e) : ErrOk l e := by
  unfold doc at h
  split at h
  · rename_i hh
    split at h
    · rename_i he
      cases h
      exact block_errx (loop_errx l _) hh he
    · split at h
      · rename_i n hn
        cases h
        exact ⟨by simp, n, List.mem_of_getElem? hn, rfl⟩
      · cases h
  · obtain ⟨a, r, rfl⟩ := List.exists_cons_of_ne_nil hne
    cases h
    exact ⟨by simp, a, List.mem_cons_self, rfl⟩
theorem segs_mem : ∀ (l cur : List Tok) (d : List Tok), d ∈ segs cur l → d ≠ [] ∧ ∀ t ∈ d, t ∈ cur ∨ t ∈ l
  | [], cur, d, h => by
    unfold segs at h
    split at h
    · cases h
    · rename_i hc
      rw [List.mem_singleton] at h
      subst h
      refine ⟨fun e => hc (by rw [e]; rfl), fun t ht => .inl ht⟩
  | a :: l, cur, d, h => by
    rw [segs_cons] at h
    split at h
    · split at h
      · obtain ⟨h1, h2⟩ := segs_mem l [] d h
        refine ⟨h1, fun t ht => .inr ?_⟩
        rcases h2 t ht with h3 | h3
        · cases h3
        · exact List.mem_cons_of_mem _ h3
      · rename_i hc
        rcases List.mem_cons.1 h with rfl | h
        · exact ⟨fun e => hc (by rw [e]; rfl), fun t ht => .inl ht⟩
        · obtain ⟨h1, h2⟩ := segs_mem l [] d h
          refine ⟨h1, fun t ht => .inr ?_⟩
          rcases h2 t ht with h3 | h3
          · cases h3
          · exact List.mem_cons_of_mem _ h3
    · obtain ⟨h1, h2⟩ := segs_mem l (cur ++ [a]) d h
      refine ⟨h1, fun t ht => ?_⟩
      rcases h2 t ht with h3 | h3
      · rcases List.mem_append.1 h3 with h4 | h4
        · exact .inl h4
        · rw [List.mem_singleton.1 h4]; exact .inr List.mem_cons_self
      · exact .inr (List.mem_cons_of_mem _ h3)
theorem docsRun_err {k : Nat} {ds : List (List Tok)} {i : Nat} {e : Fa} (h : docsRun k ds = .error (i, e)) : k ≤ i ∧ ∃ d ∈ ds, doc d = .error e := by
  induction ds generalizing k with
  | nil => cases h
  | cons d ds ih =>
    simp only [docsRun] at h
    split at h
    · rename_i x hd
      cases h
      exact ⟨Nat.le_refl _, d, List.mem_cons_self, hd⟩
    · split at h
      · rename_i x hx
        cases h
        obtain ⟨h1, d', h2, h3⟩ := ih hx
        exact ⟨by omega, d', List.mem_cons_of_mem _ h2, h3⟩
      · cases h
theorem of_err {l : List Tok} {k : Nat} {ln er : Int} (h : ofRun l = .error (k, ln, er)) : er ≠ 0 ∧ ∃ t ∈ l, t.line = ln := by
  obtain ⟨_, d, hd, he⟩ := docsRun_err h
  obtain ⟨hne, hm⟩ := segs_mem l [] d hd
  obtain ⟨h1, t, ht, h2⟩ := doc_errx hne he
  refine ⟨h1, t, ?_, h2⟩
  rcases hm t ht with h3 | h3
  · cases h3
  · exact h3
theorem docsRun_at {k : Nat} {ds : List (List Tok)} {ts : List T} (h : docsRun k ds = .ok ts) : ts.length = ds.length ∧ ∀ (i : Nat) (d : List Tok), ds[i]? = some d → ∃ t, ts[i]? = some t ∧ doc d = .ok t := by
  induction ds generalizing k ts with
  | nil => cases h; exact ⟨rfl, fun i d hd => by cases hd⟩
  | cons d ds ih =>
    simp only [docsRun] at h
    split at h
    · cases h
    · rename_i t hd
      split at h
      · cases h
      · rename_i us hu
        cases h
        obtain ⟨h1, h2⟩ := ih hu
        refine ⟨by simp [h1], fun i d' hd' => ?_⟩
        cases i with
        | zero => simp only [List.getElem?_cons_zero, Option.some.injEq] at hd'; subst hd'; exact ⟨t, rfl, hd⟩
        | succ i => simp only [List.getElem?_cons_succ] at hd' ⊢; exact h2 i d' hd'
/-- The first document of what is left. -/
theorem segs_first {l : List Tok} (h : 0 < upDoc l) (hne : l ≠ []) : segs [] l = l.take (upDoc l) :: segs [] (l.drop (upDoc l + 1)) := by
  rw [segs_upDoc, List.nil_append]
  have hn : (l.take (upDoc l)).isEmpty = false := by
    obtain ⟨a, r, rfl⟩ := List.exists_cons_of_ne_nil hne
    cases hu : upDoc (a :: r) with
    | zero => omega
    | succ n => rfl
  rw [hn]
  rfl
theorem upDoc_step {l : List Tok} {i : Nat} {t : Tok} (h : l[i]? = some t) : upDoc (l.drop i) = if t.kind = 1 then 0 else upDoc (l.drop (i + 1)) + 1 := by
  obtain ⟨q1, q2⟩ := List.getElem?_eq_some_iff.1 h
  rw [List.drop_eq_getElem_cons q1, q2, upDoc_cons]
end Go.Tr
end

section

namespace Go.Tr
theorem withKey_node (key : ByteArray) (n : Int) (k t : ByteArray) (q : Bool) (l : Int) (ks : List T) : (T.node n k t q l ks).withKey key = .node n key t q l ks := rfl
def Res.key (key : ByteArray) : Res T → Res T
  | .error x => .error x
  | .ok (t, a, m) => .ok (t.withKey key, a, m)
theorem block_key (lp : Lp) (l : List Tok) (at' d made : Nat) (key : ByteArray) : blockW lp l at' d made key = Res.key key (blockW lp l at' d made ⟨#[]⟩) := by
  unfold blockW
  split
  · rfl
  · split
    · rfl
    · split
      · rfl
      · split <;> rfl
theorem value_key (lp : Lp) (l : List Tok) (is : Bool) (u : Tok) (at' d made : Nat) (key : ByteArray) : valueW lp l is u at' d made key = Res.key key (valueW lp l is u at' d made ⟨#[]⟩) := by
  unfold valueW
  split
  · exact block_key _ _ _ _ _ _
  · split <;> rfl
end Go.Tr
namespace Go.Proofs.Ytcnjmkjfgghgoaa
open Go.RowKit Go.Mp Go.Tr
set_option linter.unusedVariables false
set_option maxRecDepth 20000
abbrev ptr (b : Nat) : Value := .pointer (some ⟨b, 0, none⟩)
abbrev treeO (k : Int) (key text : ByteArray) (q : Bool) (ln : Int) (kv : Value) : Obj := .cells #[.int .i64 k, .string key, .string text, .bool q, .int .i64 ln, kv] 99
mutual
def PT (w : World) (B : Nat) : T → Nat → (Nat → Prop) → Prop
  | .node k key text q ln ks, b, F => ∃ kv bs F', w.heap[b]? = some (treeO k key text q ln kv) ∧ w.ownsRow B 71 1 kv bs.length (bs.map ptr) ∧ PTs w B ks bs F' ∧ F b ∧ (∀ g, kv.ownBlock = some g → F g) ∧ (∀ g, F' g → F g ∧ g ≠ b ∧ kv.ownBlock ≠ some g)
def PTs (w : World) (B : Nat) : List T → List Nat → (Nat → Prop) → Prop
  | [], [], _ => True
  | t :: ts, b :: bs, F => ∃ F1 F2, PT w B t b F1 ∧ PTs w B ts bs F2 ∧ (∀ g, F1 g → F g) ∧ (∀ g, F2 g → F g)
  | _, _, _ => False
end
section
variable {w w2 : World} {B : Nat} {S : Nat → Prop}
mutual
theorem PT.tch (tt : Tch S w w2) : ∀ (t : T) (b : Nat) (F : Nat → Prop), PT w B t b F → (∀ k, F k → ¬ S k) → PT w2 B t b F
  | .node k key text q ln ks, b, F, h, hn => by
    simp only [PT] at h ⊢
    obtain ⟨kv, bs, F', h1, h2, h3, h4, h5, h6⟩ := h
    exact ⟨kv, bs, F', (tt.block b (Array.getElem?_eq_some_iff.1 h1).1 (hn b h4)).trans h1, ownsRow_tch h2 tt (fun g hg => hn g (h5 g hg)), PTs.tch tt ks bs F' h3 (fun g hg => hn g (h6 g hg).1), h4, h5, h6⟩
theorem PTs.tch (tt : Tch S w w2) : ∀ (ts : List T) (bs : List Nat) (F : Nat → Prop), PTs w B ts bs F → (∀ k, F k → ¬ S k) → PTs w2 B ts bs F
  | [], [], F, h, hn => trivial
  | t :: ts, b :: bs, F, h, hn => by
    simp only [PTs] at h ⊢
    obtain ⟨F1, F2, h1, h2, h3, h4⟩ := h
    exact ⟨F1, F2, PT.tch tt t b F1 h1 (fun g hg => hn g (h3 g hg)), PTs.tch tt ts bs F2 h2 (fun g hg => hn g (h4 g hg)), h3, h4⟩
  | [], _ :: _, F, h, hn => by simp only [PTs] at h
  | _ :: _, [], F, h, hn => by simp only [PTs] at h
end
theorem PTs.len : ∀ (ts : List T) (bs : List Nat) (F : Nat → Prop), PTs w B ts bs F → bs.length = ts.length
  | [], [], F, h => rfl
  | t :: ts, b :: bs, F, h => by
    simp only [PTs] at h
    obtain ⟨F1, F2, h1, h2, h3, h4⟩ := h
    simp [PTs.len ts bs F2 h2]
  | [], _ :: _, F, h => by simp only [PTs] at h
  | _ :: _, [], F, h => by simp only [PTs] at h
theorem PTs.wide : ∀ (ts : List T) (bs : List Nat) (F F' : Nat → Prop), PTs w B ts bs F → (∀ g, F g → F' g) → PTs w B ts bs F'
  | [], [], F, F', h, hf => trivial
  | t :: ts, b :: bs, F, F', h, hf => by
    simp only [PTs] at h ⊢
    obtain ⟨F1, F2, h1, h2, h3, h4⟩ := h
    exact ⟨F1, F2, h1, h2, fun g hg => hf g (h3 g hg), fun g hg => hf g (h4 g hg)⟩
  | [], _ :: _, F, F', h, hf => by simp only [PTs] at h
  | _ :: _, [], F, F', h, hf => by simp only [PTs] at h
theorem PTs.snoc : ∀ (ts : List T) (bs : List Nat) (F F1 : Nat → Prop) (t : T) (b : Nat), PTs w B ts bs F → PT w B t b F1 → PTs w B (ts ++ [t]) (bs ++ [b]) (fun g => F g ∨ F1 g)
  | [], [], F, F1, t, b, h, h1 => by
    simp only [List.nil_append, PTs]
    exact ⟨F1, F1, h1, trivial, fun g hg => .inr hg, fun g hg => .inr hg⟩
  | t0 :: ts, b0 :: bs, F, F1, t, b, h, h1 => by
    simp only [List.cons_append, PTs] at h ⊢
    obtain ⟨G1, G2, g1, g2, g3, g4⟩ := h
    exact ⟨G1, _, g1, PTs.snoc ts bs G2 F1 t b g2 h1, fun g hg => .inl (g3 g hg), fun g hg => hg.imp (g4 g) id⟩
  | [], _ :: _, F, F1, t, b, h, h1 => by simp only [PTs] at h
  | _ :: _, [], F, F1, t, b, h, h1 => by simp only [PTs] at h
theorem PTs.at : ∀ (ts : List T) (bs : List Nat) (F : Nat → Prop), PTs w B ts bs F → ∀ (i : Nat) (t : T), ts[i]? = some t → ∃ b F1, bs[i]? = some b ∧ PT w B t b F1 ∧ ∀ g, F1 g → F g
  | [], [], F, h, i, t, ht => by simp at ht
  | t0 :: ts, b0 :: bs, F, h, i, t, ht => by
    simp only [PTs] at h
    obtain ⟨F1, F2, h1, h2, h3, h4⟩ := h
    cases i with
    | zero => simp at ht; subst ht; exact ⟨b0, F1, rfl, h1, h3⟩
    | succ i =>
      simp at ht
      obtain ⟨b, G, e, hp, hg⟩ := PTs.at ts bs F2 h2 i t ht
      exact ⟨b, G, by simpa using e, hp, fun g hh => h4 g (hg g hh)⟩
  | [], _ :: _, F, h, i, t, ht => by simp only [PTs] at h
  | _ :: _, [], F, h, i, t, ht => by simp only [PTs] at h
theorem PT.root : ∀ (t : T) (b : Nat) (F : Nat → Prop), PT w B t b F → F b ∧ b < w.heap.size
  | .node k key text q ln ks, b, F, h => by
    simp only [PT] at h
    obtain ⟨kv, bs, F', h1, h2, h3, h4, h5, h6⟩ := h
    exact ⟨h4, (Array.getElem?_eq_some_iff.1 h1).1⟩
/-- The key, as it lies in the root. -/
theorem PT.keyCell : ∀ (t : T) (b : Nat) (F : Nat → Prop), PT w B t b F → w.cell? ⟨b, 1, none⟩ = some (.string t.key) ∧ w.frozen? ⟨b, 1, none⟩ = false
  | .node k key text q ln ks, b, F, h => by
    simp only [PT] at h
    obtain ⟨kv, bs, F', h1, h2, h3, h4, h5, h6⟩ := h
    exact ⟨(cell_of_row _ _ 1 _ _ _ h1).trans rfl, frozen_of_row _ _ _ _ _ h1⟩
/-- Another key. -/
theorem PT.setKey (nk : ByteArray) : ∀ (t : T) (b : Nat) (F : Nat → Prop), PT w B t b F → PT (w.setCell ⟨b, 1, none⟩ (.string nk)) B (t.withKey nk) b F ∧ Tch (fun k => k = b) w (w.setCell ⟨b, 1, none⟩ (.string nk))
  | .node k key text q ln ks, b, F, h => by
    simp only [PT] at h
    obtain ⟨kv, bs, F', h1, h2, h3, h4, h5, h6⟩ := h
    have t1 : Tch (fun k => k = b) w (w.setCell ⟨b, 1, none⟩ (.string nk)) := Tch.setCell (S := fun k => k = b) w (p := ⟨b, 1, none⟩) rfl _
    refine ⟨?_, t1⟩
    simp only [T.withKey, PT]
    refine ⟨kv, bs, F', ?_, ownsRow_tch h2 t1 (fun g hg e => row_not h2 h1 (by decide) (e ▸ hg)), PTs.tch t1 ks bs F' h3 (fun g hg e => (h6 g hg).2.1 e), h4, h5, h6⟩
    simp [World.setCell, Array.getElem?_modify, h1]
end
/-- A reading of the document's, with no fault so far. -/
structure RR (w : World) (rb kb : Nat) (lv : Value) (l : List Tok) (at' made : Nat) : Prop where
  hb : w.heap[rb]? = some (.cells #[lv, .int .i64 at', .int .i64 0, .int .i64 0, .int .i64 made] 94)
  tk : TokS w kb lv l
  kl : kb < w.heap.size
  ne : kb ≠ rb
section
variable {w w2 : World} {rb kb at' made : Nat} {lv : Value} {l : List Tok} {S : Nat → Prop}
theorem RR.tch (h : RR w rb kb lv l at' made) (t : Tch S w w2) (h1 : ¬ S rb) (h2 : ¬ S kb) : RR w2 rb kb lv l at' made :=
  ⟨(t.block rb (Array.getElem?_eq_some_iff.1 h.hb).1 h1).trans h.hb, h.tk.keep (t.block kb h.kl h2), Nat.lt_of_lt_of_le h.kl t.size, h.ne⟩
theorem RR.cells (h : RR w rb kb lv l at' made) : w.cell? ⟨rb, 0, none⟩ = some lv ∧ w.cell? ⟨rb, 1, none⟩ = some (.int .i64 at') ∧ w.cell? ⟨rb, 2, none⟩ = some (.int .i64 0) ∧ w.cell? ⟨rb, 3, none⟩ = some (.int .i64 0) ∧ w.cell? ⟨rb, 4, none⟩ = some (.int .i64 made) :=
  ⟨(cell_of_row _ _ 0 _ _ _ h.hb).trans rfl, (cell_of_row _ _ 1 _ _ _ h.hb).trans rfl, (cell_of_row _ _ 2 _ _ _ h.hb).trans rfl, (cell_of_row _ _ 3 _ _ _ h.hb).trans rfl, (cell_of_row _ _ 4 _ _ _ h.hb).trans rfl⟩
theorem RR.free (h : RR w rb kb lv l at' made) (j : Nat) : w.frozen? ⟨rb, j, none⟩ = false := frozen_of_row _ _ _ _ _ h.hb
theorem RR.setAt (h : RR w rb kb lv l at' made) (a : Nat) : RR (w.setCell ⟨rb, 1, none⟩ (.int .i64 a)) rb kb lv l a made ∧ Tch (fun k => k = rb) w (w.setCell ⟨rb, 1, none⟩ (.int .i64 a)) := by
  have t1 : Tch (fun k => k = rb) w (w.setCell ⟨rb, 1, none⟩ (.int .i64 a)) := Tch.setCell (S := fun k => k = rb) w (p := ⟨rb, 1, none⟩) rfl _
  exact ⟨⟨by simp [World.setCell, Array.getElem?_modify, h.hb], h.tk.keep (t1.block kb h.kl h.ne), Nat.lt_of_lt_of_le h.kl t1.size, h.ne⟩, t1⟩
theorem RR.setMade (h : RR w rb kb lv l at' made) (a : Nat) : RR (w.setCell ⟨rb, 4, none⟩ (.int .i64 a)) rb kb lv l at' a ∧ Tch (fun k => k = rb) w (w.setCell ⟨rb, 4, none⟩ (.int .i64 a)) := by
  have t1 : Tch (fun k => k = rb) w (w.setCell ⟨rb, 4, none⟩ (.int .i64 a)) := Tch.setCell (S := fun k => k = rb) w (p := ⟨rb, 4, none⟩) rfl _
  exact ⟨⟨by simp [World.setCell, Array.getElem?_modify, h.hb], h.tk.keep (t1.block kb h.kl h.ne), Nat.lt_of_lt_of_le h.kl t1.size, h.ne⟩, t1⟩
end
/-- A reading with a fault. -/
def RBad (w : World) (rb : Nat) (lv : Value) (ln er : Int) : Prop := ∃ at' made : Nat, w.heap[rb]? = some (.cells #[lv, .int .i64 at', .int .i64 ln, .int .i64 er, .int .i64 made] 94)
theorem fail_any {w : World} {rb kb at' made : Nat} {lv : Value} {l : List Tok} (h : RR w rb kb lv l at' made) (ln er : Int) :
    Calls Try.prog 50 #[ptr rb, .int .i64 ln, .int .i64 er] w fun e w' => e = .returned (.pointer none) ∧ RBad w' rb lv ln er ∧ Tch (fun k => k = rb) w w' := by
  obtain ⟨c0, c1, c2, c3, c4⟩ := h.cells
  have f2 := h.free 2
  have f3 := h.free 3
  have fin : RBad ((w.setCell ⟨rb, 2, none⟩ (.int .i64 ln)).setCell ⟨rb, 3, none⟩ (.int .i64 er)) rb lv ln er := ⟨at', made, by simp [World.setCell, Array.getElem?_modify, h.hb]⟩
  have t : Tch (fun k => k = rb) w ((w.setCell ⟨rb, 2, none⟩ (.int .i64 ln)).setCell ⟨rb, 3, none⟩ (.int .i64 er)) := (Tch.setCell (S := fun k => k = rb) w (p := ⟨rb, 2, none⟩) rfl _).trans (Tch.setCell (S := fun k => k = rb) _ (p := ⟨rb, 3, none⟩) rfl _) (fun _ h => .inl h)
  replace h := Lib.hid h
  replace fin := Lib.hid fin
  replace t := Lib.hid t
  go_enter Try.func50, Try.ntmps50
  go_wp2
  go_ret
  exact ⟨rfl, fin.out, t.out⟩
end Go.Proofs.Ytcnjmkjfgghgoaa
end
