/- The document's value, on what its block does. -/
import Derived.Test.YtcnjmkjfgghgoaaZt27
import Derived.Deep.QuietTactic
import Derived.BigQuiet
section

namespace Go.Proofs.Ytcnjmkjfgghgoaa
open Go.RowKit Go.Mp Go.Tr
set_option linter.unusedVariables false
set_option maxRecDepth 100000
set_option maxHeartbeats 2000000
def ROut (w : World) (B rb kb : Nat) (lv : Value) (l : List Tok) (r : Res T) (e : Ending) (w' : World) : Prop :=
  match r with
  | .error (ln, er) => e = .returned (.pointer none) ∧ RBad w' rb lv ln er ∧ Tch (fun k => k = rb) w w'
  | .ok (t, at2, made2) => ∃ b F, e = .returned (ptr b) ∧ PT w' B t b F ∧ RR w' rb kb lv l at2 made2 ∧ Tch (fun k => k = rb) w w' ∧ ∀ k, F k → w.heap.size ≤ k ∧ k < w'.heap.size
theorem rout_trans {w w1 w2 : World} {B rb kb : Nat} {lv : Value} {l : List Tok} {r : Res T} {e : Ending} (t : Tch (fun k => k = rb) w w1) (h : ROut w1 B rb kb lv l r e w2) : ROut w B rb kb lv l r e w2 := by
  unfold ROut at *
  split at h
  · exact ⟨h.1, h.2.1, t.trans h.2.2 (fun _ h => .inl h)⟩
  · obtain ⟨b, F, h1, h2, h3, h4, h5⟩ := h
    exact ⟨b, F, h1, h2, h3, t.trans h4 (fun _ h => .inl h), fun k hk => ⟨Nat.le_trans t.size (h5 k hk).1, (h5 k hk).2⟩⟩
def RBlockOK (l : List Tok) (f : Nat) : Prop := ∀ (w : World) (B rb kb : Nat) (lv : Value) (at' d made : Nat), RR w rb kb lv l at' made → B ≤ w.heap.size → made ≤ 4096 → d ≤ 17 → has ((l[at']?).getD zero) = true → l.length - at' ≤ f →
  Calls Try.prog 49 #[ptr rb, .int .i64 d] w (ROut w B rb kb lv l (blockW (loop l f) l at' d made ⟨#[]⟩))
def RValueOK (l : List Tok) (f : Nat) : Prop := ∀ (w : World) (B rb kb : Nat) (lv : Value) (at' d made : Nat) (u : Tok), u.kind = 2 ∨ u.kind = 3 → RR w rb kb lv l at' made → B ≤ w.heap.size → made ≤ 4096 → d ≤ 17 → l.length - at' ≤ f →
  Calls Try.prog 57 #[ptr rb, tokA u, .int .i64 d] w (ROut w B rb kb lv l (valueW (loop l f) l (isVal u.kind u ((l[at']?).getD zero)) u at' d made ⟨#[]⟩))
/-- A leaf. -/
theorem leaf_pt {w : World} {B b : Nat} {k ln : Int} {text : ByteArray} {q : Bool} (h : w.heap[b]? = some (treeO k ⟨#[]⟩ text q ln (.slice none 0 0))) : PT w B (.node k ⟨#[]⟩ text q ln []) b (fun g => g = b) := by
  unfold PT
  exact ⟨.slice none 0 0, [], No, h, World.ownsRow_nil _ _ _ _, trivial, rfl, (fun g hg => by cases hg), fun g hg => hg.elim⟩
theorem new_seven (w : World) {o : Obj} {b0 b1 b2 o0 o1 o2 o3 o4 o5 o6 : Nat} {x0 x1 x2 x3 x4 x5 x6 : Value} (h0 : w.cell? ⟨b0, o0, none⟩ = some x0) (h1 : w.cell? ⟨b1, o1, none⟩ = some x1) (h2 : w.cell? ⟨b2, o2, none⟩ = some x2) (h3 : w.cell? ⟨b2, o3, none⟩ = some x3) (h4 : w.cell? ⟨b2, o4, none⟩ = some x4) (h5 : w.cell? ⟨b2, o5, none⟩ = some x5) (h6 : w.cell? ⟨b2, o6, none⟩ = some x6) :
    (w.alloc o).cell? ⟨b0, o0, none⟩ = some x0 ∧ (w.alloc o).cell? ⟨b1, o1, none⟩ = some x1 ∧ (w.alloc o).cell? ⟨b2, o2, none⟩ = some x2 ∧ (w.alloc o).cell? ⟨b2, o3, none⟩ = some x3 ∧ (w.alloc o).cell? ⟨b2, o4, none⟩ = some x4 ∧ (w.alloc o).cell? ⟨b2, o5, none⟩ = some x5 ∧ (w.alloc o).cell? ⟨b2, o6, none⟩ = some x6 := by
  have t := Tch.alloc No w o
  exact ⟨t.cell_some h0 id, t.cell_some h1 id, t.cell_some h2 id, t.cell_some h3 id, t.cell_some h4 id, t.cell_some h5 id, t.cell_some h6 id⟩
theorem new_tok0 (w : World) (g : Nat) (hg : w.heap.size = g) :
    (w.alloc (.cells #[.int .i64 0, .int .i64 0, .int .i64 0, .string ⟨#[]⟩, .bool false] 48)).cell? ⟨g, 0, none⟩ = some (.int .i64 0) ∧ (w.alloc (.cells #[.int .i64 0, .int .i64 0, .int .i64 0, .string ⟨#[]⟩, .bool false] 48)).cell? ⟨g, 1, none⟩ = some (.int .i64 0) ∧ (w.alloc (.cells #[.int .i64 0, .int .i64 0, .int .i64 0, .string ⟨#[]⟩, .bool false] 48)).cell? ⟨g, 2, none⟩ = some (.int .i64 0) ∧ (w.alloc (.cells #[.int .i64 0, .int .i64 0, .int .i64 0, .string ⟨#[]⟩, .bool false] 48)).cell? ⟨g, 3, none⟩ = some (.string ⟨#[]⟩) ∧ (w.alloc (.cells #[.int .i64 0, .int .i64 0, .int .i64 0, .string ⟨#[]⟩, .bool false] 48)).cell? ⟨g, 4, none⟩ = some (.bool false) ∧
    (w.alloc (.cells #[.int .i64 0, .int .i64 0, .int .i64 0, .string ⟨#[]⟩, .bool false] 48)).frozen? ⟨g, 0, none⟩ = false ∧ (w.alloc (.cells #[.int .i64 0, .int .i64 0, .int .i64 0, .string ⟨#[]⟩, .bool false] 48)).frozen? ⟨g, 1, none⟩ = false ∧ (w.alloc (.cells #[.int .i64 0, .int .i64 0, .int .i64 0, .string ⟨#[]⟩, .bool false] 48)).frozen? ⟨g, 2, none⟩ = false ∧ (w.alloc (.cells #[.int .i64 0, .int .i64 0, .int .i64 0, .string ⟨#[]⟩, .bool false] 48)).frozen? ⟨g, 3, none⟩ = false ∧ (w.alloc (.cells #[.int .i64 0, .int .i64 0, .int .i64 0, .string ⟨#[]⟩, .bool false] 48)).frozen? ⟨g, 4, none⟩ = false := by
  subst hg
  have h := heap_alloc_new w (tokO zero 48)
  obtain ⟨a, b, c, d, e⟩ := tokO_cells h
  exact ⟨a, b, c, d, e, frozen_of_row _ _ _ _ _ h, frozen_of_row _ _ _ _ _ h, frozen_of_row _ _ _ _ _ h, frozen_of_row _ _ _ _ _ h, frozen_of_row _ _ _ _ _ h⟩
theorem laid_tok (w : World) (n : Tok) (g : Nat) (hg : w.heap.size = g) {w5 : World} (h5 : w5 = ((((((w.alloc (.cells #[.int .i64 0, .int .i64 0, .int .i64 0, .string ⟨#[]⟩, .bool false] 48)).setCell ⟨g, 0, none⟩ (.int .i64 n.kind)).setCell ⟨g, 1, none⟩ (.int .i64 n.line)).setCell ⟨g, 2, none⟩ (.int .i64 n.col)).setCell ⟨g, 3, none⟩ (.string n.text)).setCell ⟨g, 4, none⟩ (.bool n.quoted))) : w5.heap[g]? = some (tokO n 48) ∧ Tch No w w5 := by
  subst hg
  obtain ⟨h1, h2⟩ := set5 (heap_alloc_new w (.cells #[.int .i64 0, .int .i64 0, .int .i64 0, .string ⟨#[]⟩, .bool false] 48)) (.int .i64 n.kind) (.int .i64 n.line) (.int .i64 n.col) (.string n.text) (.bool n.quoted)
  rw [← h5] at h1 h2
  exact ⟨h1, (Tch.alloc No w _).trans h2 (fun k hk => .inr (by rw [hk]; exact Nat.le_refl _))⟩
theorem valueW_block {lp : Lp} {l : List Tok} {is : Bool} {u n : Tok} {at' d made : Nat} {key : ByteArray} (hn : (l[at']?).getD zero = n) (h : (has n && is) = true) : valueW lp l is u at' d made key = blockW lp l at' d made key := by
  unfold valueW; rw [hn]; rw [if_pos (by rw [Bool.and_comm]; exact h)]
theorem valueW_leaf {lp : Lp} {l : List Tok} {is : Bool} {u n : Tok} {at' d made : Nat} {key : ByteArray} (hn : (l[at']?).getD zero = n) (h : (has n && is) = false) : valueW lp l is u at' d made key = if full d made = true then .error (u.line, 92) else .ok (.node 1 key ⟨#[]⟩ false u.line [], at', made + 1) := by
  unfold valueW; rw [hn]; rw [if_neg (by rw [Bool.and_comm, h]; simp)]
theorem both_false {u n : Tok} {is z2 z3 : Bool} (hu : u.kind = 2 ∨ u.kind = 3) (h2 : z2 = (decide (u.kind = 2) && (has n && is))) (h3 : z3 = (decide (u.kind = 3) && (has n && is))) (e2 : z2 = false) (e3 : z3 = false) : (has n && is) = false := by
  subst e2 e3
  rcases hu with h | h
  · simpa [h] using h2.symm
  · simpa [h] using h3.symm
theorem one_true {z a b : Bool} (h : z = (a && b)) (e : z = true) : b = true := by subst e; cases a <;> simp_all
theorem has_zero (b : Bool) : (has zero && b) = false := by cases b <;> decide
theorem rvalue_any {l : List Tok} {f : Nat} (hll : l.length < 4398046511104) (hb : RBlockOK l f) : RValueOK l f := by
  intro w B rb kb lv at' d made u huk h hB hm hd hl
  obtain ⟨r, hr⟩ : ∃ r, r = valueW (loop l f) l (isVal u.kind u ((l[at']?).getD zero)) u at' d made ⟨#[]⟩ := ⟨_, rfl⟩
  rw [← hr]
  obtain ⟨w1, hw1⟩ : ∃ w1, w1 = w.alloc (tokO u 48) := ⟨_, rfl⟩
  have t1 : Tch No w w1 := by rw [hw1]; exact Tch.alloc No w _
  obtain ⟨cb, hcb⟩ : ∃ cb, cb = w.heap.size := ⟨_, rfl⟩
  have hc1 : w1.heap[cb]? = some (tokO u 48) := by rw [hw1, hcb]; exact heap_alloc_new w _
  have h1 := h.tch t1 id id
  obtain ⟨e0, e1, e2, e3, e4⟩ := tokO_cells hc1
  obtain ⟨c0, c1, c2, c3, c4⟩ := h1.cells
  have hne : cb ≠ rb := by have := (Array.getElem?_eq_some_iff.1 h.hb).1; omega
  obtain ⟨ao, cap, rfl, _⟩ := id h.tk
  replace h := Lib.hid h
  replace hc1 := Lib.hid hc1
  replace huk := Lib.hid huk
  replace hne := Lib.hid hne
  by_cases hlt : at' < l.length
  · have k0 := nn_lt hlt
    have hx := List.getElem?_eq_getElem hlt
    generalize l[at'] = n at *
    obtain ⟨off, rfl, _, d0, d1, d2, d3, d4⟩ := h1.tk.at hx
    have hxn : (l[at']?).getD zero = n := by rw [hx]; rfl
    rw [hxn] at hr
    replace hr := Lib.hid hr
    have nn0 := World.new_ne w1 _ c0
    have nn1 := World.new_ne w1 _ c1
    have nn2 := World.new_ne w1 _ d0
    have nn3 := World.new_ne w1 _ e0
    obtain ⟨iv, hiv⟩ : ∃ iv, iv = (has n && isVal u.kind u n) := ⟨_, rfl⟩
    replace h1 := Lib.hid h1
    replace hx := Lib.hid hx
    replace hxn := Lib.hid hxn
    replace t1 := Lib.hid t1
    replace hiv := Lib.hid hiv
    go_enter Try.func57, Try.ntmps57
    go_upto_region 1 with fail
    rw [show (w.alloc (tokO u 48)) = w1 from hw1.symm, ← hcb]
    replace hw1 := Lib.hid hw1
    replace hcb := Lib.hid hcb
    go_quiet (fail)
    go_upto_region 2 with fail
    have hz := new_seven (w1.drewN (nq + 1)) (o := .cells #[.int .i64 0, .int .i64 0, .int .i64 0, .string ⟨#[]⟩, .bool false] 48) c0 c1 d0 d1 d2 d3 d4
    obtain ⟨z0, z1, z2, z3, z4, z5, z6⟩ := hz
    obtain ⟨y0, y1, y2, y3, y4, y5, y6, y7, y8, y9⟩ := new_tok0 (w1.drewN (nq + 1)) w1.heap.size rfl
    go_region
    obtain ⟨nb, hnb⟩ : ∃ nb, nb = w1.heap.size := ⟨_, rfl⟩
    rw [← hnb]
    obtain ⟨w5, hw5⟩ : ∃ w5, w5 = (((((((w1.drewN (nq + 1)).alloc (.cells #[.int .i64 0, .int .i64 0, .int .i64 0, .string ⟨#[]⟩, .bool false] 48)).setCell ⟨nb, 0, none⟩ (.int .i64 n.kind)).setCell ⟨nb, 1, none⟩ (.int .i64 n.line)).setCell ⟨nb, 2, none⟩ (.int .i64 n.col)).setCell ⟨nb, 3, none⟩ (.string n.text)).setCell ⟨nb, 4, none⟩ (.bool n.quoted)) := ⟨_, rfl⟩
    rw [← hw5]
    obtain ⟨g5, t5⟩ := laid_tok (w1.drewN (nq + 1)) n nb hnb.symm hw5
    replace t5 : Tch No w1 w5 := (Tch.drewN No w1 (nq + 1)).trans t5 (fun _ h => h.elim)
    have h5 := h1.out.tch t5 id id
    have u5 : w5.heap[cb]? = some (tokO u 48) := (t5.block cb (Array.getElem?_eq_some_iff.1 hc1.out).1 id).trans hc1.out
    clear z0 z1 z2 z3 z4 z5 z6 y0 y1 y2 y3 y4 y5 y6 y7 y8 y9 nn0 nn1 nn2 nn3 c0 c1 c2 c3 c4 d0 d1 d2 d3 d4 e0 e1 e2 e3 e4
    obtain ⟨u0, u1, u2, u3, u4⟩ := tokO_cells u5
    obtain ⟨n0, n1, n2, n3, n4⟩ := tokO_cells g5
    obtain ⟨c0, c1, c2, c3, c4⟩ := h5.cells
    have f1 := h5.free 1
    have f4 := h5.free 4
    have tt := Lib.hid (show Tch (fun k => k = rb) w w5 from (t1.out.trans t5 (fun _ h => h.elim)).mono (fun _ h => h.elim))
    replace hw5 := Lib.hid hw5
    replace hnb := Lib.hid hnb
    replace g5 := Lib.hid g5
    replace t5 := Lib.hid t5
    replace u5 := Lib.hid u5
    replace h5 := Lib.hid h5
    go_upto_region 3 with fail
    obtain ⟨b1, hb1⟩ : ∃ b1, b1 = has n := ⟨_, rfl⟩
    replace hb1 := Lib.hid hb1
    go_cut [8] (fun hv wx => hv = .bool b1 ∧ wx = w5)
    case first =>
      have hh : has n = (decide (2 ≤ n.kind) && decide (n.kind ≤ 4)) := by
        unfold has
        rw [Bool.eq_iff_iff]; simp; omega
      replace hh := Lib.hid hh
      by_cases k2 : 2 ≤ n.kind
      · have q2 : decide (2 ≤ n.kind) = true := decide_eq_true k2
        go_wp2
        go_meet
        exact ⟨by rw [hb1.out, hh.out, q2]; rfl, rfl⟩
      · have q2 : decide (2 ≤ n.kind) = false := decide_eq_false k2
        replace k2 := Lib.hid k2
        go_wp2
        go_meet
        exact ⟨by rw [hb1.out, hh.out, q2]; rfl, rfl⟩
    case rest =>
      obtain ⟨rfl, rfl⟩ := hcut
      have hi3 : u.kind = 3 → isVal u.kind u n = (decide (n.line = u.line) && decide (n.kind = 4) || !decide (n.line = u.line) && (decide (u.col < n.col) || decide (n.kind = 2) && decide (n.col = u.col))) := fun h => by rw [h]; rfl
      have hi2 : u.kind = 2 → isVal u.kind u n = (decide (n.line = u.line) || decide (u.col < n.col)) := fun h => by rw [h]; rfl
      replace hi3 := Lib.hid hi3
      replace hi2 := Lib.hid hi2
      obtain ⟨z3, hz3⟩ : ∃ z3, z3 = (decide (u.kind = 3) && (has n && isVal u.kind u n)) := ⟨_, rfl⟩
      obtain ⟨z2, hz2⟩ : ∃ z2, z2 = (decide (u.kind = 2) && (has n && isVal u.kind u n)) := ⟨_, rfl⟩
      replace hz3 := Lib.hid hz3
      replace hz2 := Lib.hid hz2
      obtain ⟨b2, hb2⟩ : ∃ b2, (n.line == u.line) = b2 := ⟨_, rfl⟩
      go_upto_region 5 with fail
      replace hb2 := Lib.hid hb2
      go_cut [79] (fun v wx => v = .bool z3 ∧ wx = wc)
      case first =>
        by_cases k3 : u.kind = 3
        · have q3 : (u.kind == 3) = true := by rw [beq_iff_eq]; exact k3
          cases b1 with
          | false =>
            have hhn := hb1.out.symm
            have hfin : z3 = false := by rw [hz3.out]; simp [hhn]
            replace k3 := Lib.hid k3
            replace hfin := Lib.hid hfin
            try replace hhn := Lib.hid hhn
            go_wp2
            go_meet
            exact ⟨by rw [hfin.out], rfl⟩
          | true =>
            have hhn := hb1.out.symm
            cases b2 with
            | true =>
              have ka : n.line = u.line := by have := hb2.out; rwa [beq_iff_eq] at this
              by_cases k4 : n.kind = 4
              · have q4 : (n.kind == 4) = true := by rw [beq_iff_eq]; exact k4
                have hfin : z3 = true := by rw [hz3.out, hi3.out k3]; simp [k3, hhn, ka, k4]
                replace k3 := Lib.hid k3
                replace ka := Lib.hid ka
                replace k4 := Lib.hid k4
                replace hfin := Lib.hid hfin
                try replace hhn := Lib.hid hhn
                go_wp2
                go_meet
                exact ⟨by rw [hfin.out], rfl⟩
              · have q4 : (n.kind == 4) = false := by rw [beq_eq_false_iff_ne]; exact k4
                have hfin : z3 = false := by rw [hz3.out, hi3.out k3]; simp [k3, hhn, ka, k4]
                replace k3 := Lib.hid k3
                replace ka := Lib.hid ka
                replace k4 := Lib.hid k4
                replace hfin := Lib.hid hfin
                try replace hhn := Lib.hid hhn
                go_wp2
                go_meet
                exact ⟨by rw [hfin.out], rfl⟩
            | false =>
              have ka : ¬ n.line = u.line := by have := hb2.out; rwa [beq_eq_false_iff_ne] at this
              by_cases kg : u.col < n.col
              · have qg : decide (u.col < n.col) = true := decide_eq_true kg
                have hfin : z3 = true := by rw [hz3.out, hi3.out k3]; simp [k3, hhn, ka, kg]
                replace k3 := Lib.hid k3
                replace ka := Lib.hid ka
                replace hfin := Lib.hid hfin
                try replace hhn := Lib.hid hhn
                go_wp2
                go_meet
                exact ⟨by rw [hfin.out], rfl⟩
              · have qg : decide (u.col < n.col) = false := decide_eq_false kg
                by_cases k5 : n.kind = 2
                · have q5 : (n.kind == 2) = true := by rw [beq_iff_eq]; exact k5
                  obtain ⟨x, hx⟩ : ∃ x, (n.col == u.col) = x := ⟨_, rfl⟩
                  have hfin : z3 = x := by rw [hz3.out, hi3.out k3, show decide (n.col = u.col) = (n.col == u.col) from rfl, hx]; simp [k3, hhn, ka, kg, k5]
                  replace k3 := Lib.hid k3
                  replace ka := Lib.hid ka
                  replace kg := Lib.hid kg
                  replace k5 := Lib.hid k5
                  replace hfin := Lib.hid hfin
                  try replace hhn := Lib.hid hhn
                  go_wp2
                  go_meet
                  exact ⟨by rw [hfin.out], rfl⟩
                · have q5 : (n.kind == 2) = false := by rw [beq_eq_false_iff_ne]; exact k5
                  have hfin : z3 = false := by rw [hz3.out, hi3.out k3]; simp [k3, hhn, ka, kg, k5]
                  replace k3 := Lib.hid k3
                  replace ka := Lib.hid ka
                  replace kg := Lib.hid kg
                  replace k5 := Lib.hid k5
                  replace hfin := Lib.hid hfin
                  try replace hhn := Lib.hid hhn
                  go_wp2
                  go_meet
                  exact ⟨by rw [hfin.out], rfl⟩
        · have q3 : (u.kind == 3) = false := by rw [beq_eq_false_iff_ne]; exact k3
          have hfin : z3 = false := by rw [hz3.out]; simp [k3]
          replace k3 := Lib.hid k3
          replace hfin := Lib.hid hfin
          try replace hhn := Lib.hid hhn
          go_wp2
          go_meet
          exact ⟨by rw [hfin.out], rfl⟩
      case rest =>
        obtain ⟨rfl, rfl⟩ := hcut
        cases z3 with
        | true =>
          have hv : r = blockW (loop l f) l at' d made ⟨#[]⟩ := hr.out.trans <| valueW_block hxn.out (one_true hz3.out rfl)
          have hC := hb wc B rb kb _ at' d made h5.out (Nat.le_trans hB tt.out.size) hm hd (by rw [hxn.out]; have := one_true hz3.out rfl; simp only [Bool.and_eq_true] at this; exact this.1) hl
          rw [← hv] at hC
          clear hv
          replace hC := Lib.hid hC
          rcases r with ⟨ln, er⟩ | ⟨t, at2, m2⟩
          · go_wp2_with (first
              | (go_at_call 49; refine hC.out.mono ?_; clear hC; rintro e w6 ⟨rfl, hR, tR⟩; replace hR := Lib.hid hR; replace tR := Lib.hid tR)
              | fail)
            go_ret
            exact rout_trans tt.out ⟨rfl, hR.out, tR.out⟩
          · go_wp2_with (first
              | (go_at_call 49; refine hC.out.mono ?_; clear hC; rintro e w6 ⟨b, F, rfl, hR⟩; replace hR := Lib.hid hR)
              | fail)
            go_ret
            exact rout_trans tt.out ⟨b, F, rfl, hR.out⟩
        | false =>
          go_upto_region 7 with fail
          go_cut [98] (fun v wx => v = .bool z2 ∧ wx = wc)
          case first =>
            by_cases k3 : u.kind = 2
            · have q3 : (u.kind == 2) = true := by rw [beq_iff_eq]; exact k3
              cases b1 with
              | false =>
                have hfin : z2 = false := by rw [hz2.out, ← hb1.out]; simp
                replace k3 := Lib.hid k3
                replace hfin := Lib.hid hfin
                go_wp2
                go_meet
                exact ⟨by rw [hfin.out], rfl⟩
              | true =>
                cases b2 with
                | true =>
                  have ka : n.line = u.line := by have := hb2.out; rwa [beq_iff_eq] at this
                  have hfin : z2 = true := by rw [hz2.out, hi2.out k3, ← hb1.out]; simp [k3, ka]
                  replace k3 := Lib.hid k3
                  replace ka := Lib.hid ka
                  replace hfin := Lib.hid hfin
                  go_wp2
                  go_meet
                  exact ⟨by rw [hfin.out], rfl⟩
                | false =>
                  have ka : ¬ n.line = u.line := by have := hb2.out; rwa [beq_eq_false_iff_ne] at this
                  obtain ⟨x, hx2⟩ : ∃ x, decide (u.col < n.col) = x := ⟨_, rfl⟩
                  have hfin : z2 = x := by rw [hz2.out, hi2.out k3, ← hb1.out, hx2]; simp [k3, ka]
                  replace k3 := Lib.hid k3
                  replace ka := Lib.hid ka
                  replace hfin := Lib.hid hfin
                  go_wp2
                  go_meet
                  exact ⟨by rw [hfin.out], rfl⟩
            · have q3 : (u.kind == 2) = false := by rw [beq_eq_false_iff_ne]; exact k3
              have hfin : z2 = false := by rw [hz2.out]; simp [k3]
              replace k3 := Lib.hid k3
              replace hfin := Lib.hid hfin
              go_wp2
              go_meet
              exact ⟨by rw [hfin.out], rfl⟩
          case rest =>
            obtain ⟨rfl, rfl⟩ := hcut
            cases z2 with
            | true =>
              have hv : r = blockW (loop l f) l at' d made ⟨#[]⟩ := hr.out.trans <| valueW_block hxn.out (one_true hz2.out rfl)
              have hC := hb wc B rb kb _ at' d made h5.out (Nat.le_trans hB tt.out.size) hm hd (by rw [hxn.out]; have := one_true hz2.out rfl; simp only [Bool.and_eq_true] at this; exact this.1) hl
              rw [← hv] at hC
              clear hv
              replace hC := Lib.hid hC
              rcases r with ⟨ln, er⟩ | ⟨t, at2, m2⟩
              · go_wp2_with (first
                  | (go_at_call 49; refine hC.out.mono ?_; clear hC; rintro e w6 ⟨rfl, hR, tR⟩; replace hR := Lib.hid hR; replace tR := Lib.hid tR)
                  | fail)
                go_ret
                exact rout_trans tt.out ⟨rfl, hR.out, tR.out⟩
              · go_wp2_with (first
                  | (go_at_call 49; refine hC.out.mono ?_; clear hC; rintro e w6 ⟨b, F, rfl, hR⟩; replace hR := Lib.hid hR)
                  | fail)
                go_ret
                exact rout_trans tt.out ⟨b, F, rfl, hR.out⟩
            | false =>
              have hv := hr.out.trans (valueW_leaf (lp := loop l f) (u := u) (at' := at') (d := d) (made := made) (key := ⟨#[]⟩) hxn.out (both_false huk.out hz2.out hz3.out rfl rfl))
              clear hr
              by_cases hf : full d made = true
              · rw [if_pos hf] at hv
                subst hv
                have hF := Lib.hid (fail_any h5.out u.line 92)
                rcases full_true hf with kd | km
                · have q1 : decide ((16 : Int) < (d : Int)) = true := decide_eq_true (by omega)
                  replace hf := Lib.hid hf
                  replace kd := Lib.hid kd
                  go_wp2_with (first
                    | (go_at_call 50; refine hF.out.mono ?_; clear hF; rintro e w6 ⟨rfl, hR, tR⟩; replace hR := Lib.hid hR; replace tR := Lib.hid tR)
                    | fail)
                  go_ret
                  exact rout_trans tt.out ⟨rfl, hR.out, tR.out⟩
                · obtain ⟨qd, hqd⟩ : ∃ q, decide ((16 : Int) < (d : Int)) = q := ⟨_, rfl⟩
                  have q2 : ((made : Int) == 4096) = true := by rw [beq_iff_eq]; omega
                  replace hf := Lib.hid hf
                  replace km := Lib.hid km
                  cases qd with
                  | true =>
                    go_wp2_with (first
                      | (go_at_call 50; refine hF.out.mono ?_; clear hF; rintro e w6 ⟨rfl, hR, tR⟩; replace hR := Lib.hid hR; replace tR := Lib.hid tR)
                      | fail)
                    go_ret
                    exact rout_trans tt.out ⟨rfl, hR.out, tR.out⟩
                  | false =>
                    go_wp2_with (first
                      | (go_at_call 50; refine hF.out.mono ?_; clear hF; rintro e w6 ⟨rfl, hR, tR⟩; replace hR := Lib.hid hR; replace tR := Lib.hid tR)
                      | fail)
                    go_ret
                    exact rout_trans tt.out ⟨rfl, hR.out, tR.out⟩
              · rw [if_neg hf] at hv
                subst hv
                obtain ⟨kd, kn⟩ := Go.Tr.full_false hf
                have q1 : decide ((16 : Int) < (d : Int)) = false := decide_eq_false (by omega)
                have q2 : ((made : Int) == 4096) = false := by rw [beq_eq_false_iff_ne]; omega
                have hwm : wrap64 ((made : Int) + 1) = (made : Int) + 1 := by unfold wrap64; omega
                obtain ⟨h6, t6⟩ := h5.out.setMade (made + 1)
                rw [nn_cast] at h6 t6
                obtain ⟨w6, hw6⟩ : ∃ w6, w6 = wc.setCell ⟨rb, 4, none⟩ (.int .i64 ((made : Int) + 1)) := ⟨_, rfl⟩
                rw [← hw6] at h6 t6
                have hcr : cb ≠ rb := hne.out
                have v5 : w6.heap[cb]? = some (tokO u 48) := (t6.block cb (Array.getElem?_eq_some_iff.1 u5.out).1 hcr).trans u5.out
                have v1 := (tokO_cells v5).2.1
                replace v5 := Lib.hid v5
                replace h6 := Lib.hid h6
                replace t6 := Lib.hid t6
                replace hcr := Lib.hid hcr
                replace hf := Lib.hid hf
                replace kd := Lib.hid kd
                replace kn := Lib.hid kn
                go_upto_region 12 with fail
                rw [← hw6]
                replace hw6 := Lib.hid hw6
                clear c0 c1 c2 c3 c4 f1 f4 u0 u1 u2 u3 u4
                have t7 : Tch No w6 (w6.alloc (treeO 1 ⟨#[]⟩ ⟨#[]⟩ false u.line (.slice none 0 0))) := Tch.alloc No w6 _
                have g7 := heap_alloc_new w6 (treeO 1 ⟨#[]⟩ ⟨#[]⟩ false u.line (.slice none 0 0))
                replace t7 := Lib.hid t7
                replace g7 := Lib.hid g7
                go_wp2
                go_ret
                exact rout_trans tt.out ⟨_, _, rfl, leaf_pt g7.out, h6.out.tch t7.out id id, t6.out.trans t7.out (fun _ h => h.elim), fun k hk => by rw [hk]; exact ⟨t6.out.size, by simp⟩⟩
  · have k0 := nn_ge hlt
    have k1 : decide (at' < l.length) = false := decide_eq_false hlt
    have hx : l[at']? = none := List.getElem?_eq_none (by omega)
    have hxn : (l[at']?).getD zero = zero := by rw [hx]; rfl
    rw [hxn] at hr
    replace hr := Lib.hid hr
    replace h1 := Lib.hid h1
    replace hx := Lib.hid hx
    replace hxn := Lib.hid hxn
    replace t1 := Lib.hid t1
    replace hlt := Lib.hid hlt
    go_enter Try.func57, Try.ntmps57
    go_upto_region 1 with fail
    rw [show (w.alloc (tokO u 48)) = w1 from hw1.symm, ← hcb]
    replace hw1 := Lib.hid hw1
    replace hcb := Lib.hid hcb
    go_quiet (fail)
    obtain ⟨w5, hw5⟩ : ∃ w5, w5 = w1.drewN nq := ⟨_, rfl⟩
    rw [← hw5]
    have t5 : Tch No w1 w5 := by rw [hw5]; exact Tch.drewN No w1 nq
    have h5 := h1.out.tch t5 id id
    have u5 : w5.heap[cb]? = some (tokO u 48) := (t5.block cb (Array.getElem?_eq_some_iff.1 hc1.out).1 id).trans hc1.out
    clear c0 c1 c2 c3 c4 e0 e1 e2 e3 e4
    obtain ⟨u0, u1, u2, u3, u4⟩ := tokO_cells u5
    obtain ⟨c0, c1, c2, c3, c4⟩ := h5.cells
    have f1 := h5.free 1
    have f4 := h5.free 4
    have tt := Lib.hid (show Tch (fun k => k = rb) w w5 from (t1.out.trans t5 (fun _ h => h.elim)).mono (fun _ h => h.elim))
    replace hw5 := Lib.hid hw5
    replace t5 := Lib.hid t5
    replace u5 := Lib.hid u5
    replace h5 := Lib.hid h5
    have hv := hr.out.trans (valueW_leaf (lp := loop l f) (u := u) (at' := at') (d := d) (made := made) (key := ⟨#[]⟩) hxn.out (has_zero _))
    clear hr
    by_cases hf : full d made = true
    · rw [if_pos hf] at hv
      subst hv
      have hF := Lib.hid (fail_any h5.out u.line 92)
      rcases full_true hf with kd | km
      · have q1 : decide ((16 : Int) < (d : Int)) = true := decide_eq_true (by omega)
        replace hf := Lib.hid hf
        replace kd := Lib.hid kd
        go_wp2_with (first
          | (go_at_call 50; refine hF.out.mono ?_; clear hF; rintro e w6 ⟨rfl, hR, tR⟩; replace hR := Lib.hid hR; replace tR := Lib.hid tR)
          | fail)
        go_ret
        exact rout_trans tt.out ⟨rfl, hR.out, tR.out⟩
      · obtain ⟨qd, hqd⟩ : ∃ q, decide ((16 : Int) < (d : Int)) = q := ⟨_, rfl⟩
        have q2 : ((made : Int) == 4096) = true := by rw [beq_iff_eq]; omega
        replace hf := Lib.hid hf
        replace km := Lib.hid km
        cases qd with
        | true =>
          go_wp2_with (first
            | (go_at_call 50; refine hF.out.mono ?_; clear hF; rintro e w6 ⟨rfl, hR, tR⟩; replace hR := Lib.hid hR; replace tR := Lib.hid tR)
            | fail)
          go_ret
          exact rout_trans tt.out ⟨rfl, hR.out, tR.out⟩
        | false =>
          go_wp2_with (first
            | (go_at_call 50; refine hF.out.mono ?_; clear hF; rintro e w6 ⟨rfl, hR, tR⟩; replace hR := Lib.hid hR; replace tR := Lib.hid tR)
            | fail)
          go_ret
          exact rout_trans tt.out ⟨rfl, hR.out, tR.out⟩
    · rw [if_neg hf] at hv
      subst hv
      obtain ⟨kd, kn⟩ := Go.Tr.full_false hf
      have q1 : decide ((16 : Int) < (d : Int)) = false := decide_eq_false (by omega)
      have q2 : ((made : Int) == 4096) = false := by rw [beq_eq_false_iff_ne]; omega
      have hwm : wrap64 ((made : Int) + 1) = (made : Int) + 1 := by unfold wrap64; omega
      obtain ⟨h6, t6⟩ := h5.out.setMade (made + 1)
      rw [nn_cast] at h6 t6
      obtain ⟨w6, hw6⟩ : ∃ w6, w6 = w5.setCell ⟨rb, 4, none⟩ (.int .i64 ((made : Int) + 1)) := ⟨_, rfl⟩
      rw [← hw6] at h6 t6
      have hcr : cb ≠ rb := hne.out
      have v5 : w6.heap[cb]? = some (tokO u 48) := (t6.block cb (Array.getElem?_eq_some_iff.1 u5.out).1 hcr).trans u5.out
      have v1 := (tokO_cells v5).2.1
      replace v5 := Lib.hid v5
      replace h6 := Lib.hid h6
      replace t6 := Lib.hid t6
      replace hcr := Lib.hid hcr
      replace hf := Lib.hid hf
      replace kd := Lib.hid kd
      replace kn := Lib.hid kn
      go_upto_region 12 with fail
      rw [← hw6]
      replace hw6 := Lib.hid hw6
      clear c0 c1 c2 c3 c4 f1 f4 u0 u1 u2 u3 u4
      have t7 : Tch No w6 (w6.alloc (treeO 1 ⟨#[]⟩ ⟨#[]⟩ false u.line (.slice none 0 0))) := Tch.alloc No w6 _
      have g7 := heap_alloc_new w6 (treeO 1 ⟨#[]⟩ ⟨#[]⟩ false u.line (.slice none 0 0))
      replace t7 := Lib.hid t7
      replace g7 := Lib.hid g7
      go_wp2
      go_ret
      exact rout_trans tt.out ⟨_, _, rfl, leaf_pt g7.out, h6.out.tch t7.out id id, t6.out.trans t7.out (fun _ h => h.elim), fun k hk => by rw [hk]; exact ⟨t6.out.size, by simp⟩⟩
end Go.Proofs.Ytcnjmkjfgghgoaa
end
