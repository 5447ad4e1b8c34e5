/- Expire of the document's pool: insertion by pieces. -/
import Derived.Test.YtpebcamnmeppaaaRtake
import Derived.Laws.AppendOwnNone
import Derived.Deep.CutBlock
import Derived.Deep.DeepCutAuto
namespace Go.Po
open Go.RowKit
theorem ins_perm (l : List Int) (k : Nat) (x : Int) : (l.take k ++ [x] ++ l.drop k).Perm (l ++ [x]) := by
  rw [List.append_assoc]
  refine (List.Perm.append_left _ List.perm_append_comm).trans ?_
  rw [← List.append_assoc, List.take_append_drop]
theorem ins_sorted {l : List Int} (h : l.Pairwise (· ≤ ·)) {k : Nat} {x : Int} (h1 : ∀ y ∈ l.take k, y < x) (h2 : ∀ y ∈ l.drop k, x ≤ y) : (l.take k ++ [x] ++ l.drop k).Pairwise (· ≤ ·) := by
  rw [List.append_assoc, List.pairwise_append]
  refine ⟨h.sublist (List.take_sublist _ _), ?_, ?_⟩
  · rw [List.singleton_append, List.pairwise_cons]
    exact ⟨h2, h.sublist (List.drop_sublist _ _)⟩
  · intro a ha b hb
    rw [List.singleton_append] at hb
    have := h1 a ha
    rcases List.mem_cons.1 hb with rfl | hb
    · omega
    · have := h2 b hb; omega
/-- From where a sorted list is not below, it stays so. -/
theorem drop_ge {l : List Int} (h : l.Pairwise (· ≤ ·)) {k : Nat} {x y : Int} (hx : l[k]? = some y) (hy : ¬ y < x) : ∀ z ∈ l.drop k, x ≤ z := by
  have h1 := (List.getElem?_eq_some_iff.1 hx).1
  have h2 := (List.getElem?_eq_some_iff.1 hx).2
  have h3 := h.sublist (List.drop_sublist k l)
  rw [List.drop_eq_getElem_cons h1, h2] at h3 ⊢
  rw [List.pairwise_cons] at h3
  intro z hz
  rcases List.mem_cons.1 hz with rfl | hz
  · omega
  · have := h3.1 z hz; omega
theorem take_lt {l : List Int} {k : Nat} {x y : Int} (hx : l[k]? = some y) (hy : y < x) (h : ∀ z ∈ l.take k, z < x) : ∀ z ∈ l.take (k + 1), z < x := by
  rw [List.take_add_one, hx]
  intro z hz
  rcases List.mem_append.1 hz with hz | hz
  · exact h z hz
  · simp at hz; subst hz; exact hy
theorem sorted_is {l m : List Int} (hp : l.Perm m) (hs : l.Pairwise (· ≤ ·)) : l = m.mergeSort fun x y => decide (x ≤ y) := by
  have tr : ∀ (a b c : Int), decide (a ≤ b) = true → decide (b ≤ c) = true → decide (a ≤ c) = true := by simp; omega
  have tot : ∀ (a b : Int), (decide (a ≤ b) || decide (b ≤ a)) = true := by simp; omega
  exact List.Perm.eq_of_pairwise (le := fun a b => decide (a ≤ b) = true) (fun a b _ _ h1 h2 => by simp at h1 h2; omega) (hs.imp (fun h => by simpa using h)) (List.pairwise_mergeSort tr tot m) (hp.trans (List.mergeSort_perm m _).symm)
/-- What the loop has made of the first free ones. -/
structure Ex (s : St) (now : Int) (i : Nat) (o : List Int) (lf : List C) : Prop where
  pe : o.Perm (((s.free.take i).filter (old s now)).map (·.id))
  so : o.Pairwise (· ≤ ·)
  le : lf = (s.free.take i).filter fun c => !old s now c
  ol : o.length ≤ i
  ll : lf.length ≤ i
theorem Ex.zero (s : St) (now : Int) : Ex s now 0 [] [] := ⟨by simp, List.Pairwise.nil, by simp, Nat.le_refl _, Nat.le_refl _⟩
theorem Ex.out {s : St} {now : Int} {i : Nat} {o : List Int} {lf : List C} (h : Ex s now i o lf) {c : C} (hx : s.free[i]? = some c) (ho : old s now c = true) {k : Nat} (h1 : ∀ y ∈ o.take k, y < c.id) (h2 : ∀ y ∈ o.drop k, c.id ≤ y) : Ex s now (i + 1) (o.take k ++ [c.id] ++ o.drop k) lf := by
  have e : s.free.take (i + 1) = s.free.take i ++ [c] := by rw [List.take_add_one, hx]; rfl
  refine ⟨?_, ins_sorted h.so h1 h2, ?_, ?_, Nat.le_succ_of_le h.ll⟩
  · rw [e, List.filter_append, List.map_append]
    refine (ins_perm o k c.id).trans ?_
    have e2 : ([c].filter (old s now)).map (·.id) = [c.id] := by simp [ho]
    rw [e2]
    exact h.pe.append_right _
  · rw [e, List.filter_append, h.le]; simp [ho]
  · have := h.ol
    have := (ins_perm o k c.id).length_eq
    simp at this ⊢; omega
theorem Ex.left {s : St} {now : Int} {i : Nat} {o : List Int} {lf : List C} (h : Ex s now i o lf) {c : C} (hx : s.free[i]? = some c) (ho : old s now c = false) : Ex s now (i + 1) o (lf ++ [c]) := by
  have e : s.free.take (i + 1) = s.free.take i ++ [c] := by rw [List.take_add_one, hx]; rfl
  refine ⟨?_, h.so, ?_, Nat.le_succ_of_le h.ol, ?_⟩
  · rw [e, List.filter_append, List.map_append]; simp [ho]; exact h.pe
  · rw [e, List.filter_append, h.le]; simp [ho]
  · have := h.ll
    simp; omega
theorem Ex.done {s : St} {now : Int} {o : List Int} {lf : List C} (h : Ex s now s.free.length o lf) : o = (expire s now).1 ∧ lf = (expire s now).2.free := by
  have h1 := h.pe
  have h2 := h.le
  rw [List.take_length] at h1 h2
  exact ⟨sorted_is h1 h.so, h2⟩
end Go.Po
namespace Go.Proofs.Ytpebcamnmeppaaa
open Go.RowKit Go.Mp Go.Po
set_option linter.unusedVariables false
set_option maxRecDepth 20000
set_option maxHeartbeats 2000000
/-- 'append(v, x...)' of numbers: x nil or not. -/
theorem wp_append_ints {P : Program} {w : World} {ops : Array Oper} {rest : List Oper} {o : Oper} {a : Act} {Q : Exit → Act → World → Prop} (hgd : o.guard = none) (s x : Operand) (t : TypeId)
    (ho : o.op = .call { callee := .builtin .append, args := #[s, x], argTypes := #[t, t] })
    (base : Nat) (e : TypeId) (i : TypeInfo) (z : Value) (bytes : Nat) (ht : P.underlying t = some (.slice e)) (hi : P.info? e = some i) (hz : i.zero = some z)
    (hsize : i.size = 1) (hby : i.bytes = bytes) (hzs : z.cells.size = 1)
    (v : Value) (n : Nat) (xs : List Value) (hs : a.eval s = v) (hown : w.ownsRow base e 1 v n xs)
    (ao : Option Addr) (m c : Nat) (news : List Value) (hx : a.eval x = .slice ao m c) (hnil : ao = none → m = 0 ∧ c = 0) (hl : news.length = m) (hnews : ∀ j u, news[j]? = some u → ∃ ad, ao = some ad ∧ w.cell? (ad.add j) = some u) (h1 : ∀ u ∈ news, u.oneCell' = true)
    (h63 : n + m ≤ maxLen) (hbytes : (n + m) * bytes ≤ 140737488355328) (hbase : base ≤ w.heap.size)
    (h : ∀ v' w', w'.ownsRow base e 1 v' (n + m) (xs ++ news) → w.grownBy w' v.ownBlock → (∀ g, v'.ownBlock = some g → v.ownBlock = some g ∨ w.heap.size ≤ g) → wpList P ops Q rest (a.put o.dst v') w') :
    wpList P ops Q (o :: rest) a w := by
  cases ao with
  | none =>
    obtain ⟨rfl, rfl⟩ := hnil rfl
    obtain rfl : news = [] := List.eq_nil_of_length_eq_zero hl
    refine wpList_append_own_none hgd s x t ho base e i 1 ht hi v n xs hs hown hx ?_
    exact h v w (by simpa using hown) ⟨rfl, rfl, rfl, Nat.le_refl _, fun _ _ _ => rfl⟩ (fun g hg => .inl hg)
  | some ad =>
    refine wpList_append_own_at _ hgd s x t ho base e i z 1 bytes ht hi hz hsize hby hzs (by decide) v n xs hs hown ad m c news hx (by rw [hl, Nat.mul_one]) (fun j u hu => by
      obtain ⟨ad', h1, h2⟩ := hnews j u hu
      cases h1; exact h2) h1 h63 hbytes hbase ?_
    intro v' w' h2 h3 h4 h5
    refine h v' w' h2 h3 (fun g hg => ?_)
    rcases h5 with hl | hl
    · exact .inl (by rw [← hl]; exact hg)
    · rw [hl] at hg; cases hg; exact .inr (Nat.le_refl _)
theorem add_zero_at (g j : Nat) : (⟨g, 0, none⟩ : Addr).add j = ⟨g, j, none⟩ := by unfold Addr.add; split <;> simp_all
theorem add_at (g k j : Nat) : (⟨g, k, none⟩ : Addr).add j = ⟨g, k + j, none⟩ := by unfold Addr.add; split <;> simp_all
theorem icells_one (l : List Int) : ∀ u ∈ icells l, u.oneCell' = true := by
  intro u hu
  obtain ⟨x, _, rfl⟩ := List.mem_map.1 hu
  rfl
theorem irow_at {w : World} {base n cap : Nat} {ao : Option Addr} {l : List Int} (h : w.ownsRow base 3 1 (.slice ao n cap) l.length (icells l)) {k : Nat} {x : Int} (hx : l[k]? = some x) : ∃ g, ao = some ⟨g, 0, none⟩ ∧ w.cell? ⟨g, k, none⟩ = some (.int .i64 x) := by
  have hk := (List.getElem?_eq_some_iff.1 hx).1
  rcases h.2 with ⟨h0, h1⟩ | ⟨g', cp, cur, h0, r⟩
  · omega
  · simp only [Value.slice.injEq] at h0
    obtain ⟨rfl, hm, rfl⟩ := h0
    subst hm
    refine ⟨g', rfl, ?_⟩
    rw [h.cellAt k (by omega)]
    simp [icells, hx]
theorem irow_cases {w : World} {base n cap : Nat} {ao : Option Addr} {l : List Int} (h : w.ownsRow base 3 1 (.slice ao n cap) l.length (icells l)) : (ao = none ∧ cap = 0 ∧ l = []) ∨ ∃ g, ao = some ⟨g, 0, none⟩ ∧ l.length ≤ cap ∧ cap ≤ maxLen ∧ base ≤ g ∧ g < w.heap.size ∧ ∀ j u, (icells l)[j]? = some u → w.cell? ⟨g, j, none⟩ = some u := by
  rcases h.2 with ⟨h0, h1⟩ | ⟨g', cp, cur, h0, hb, hc, h2, h3, _⟩
  · simp only [Value.slice.injEq] at h0
    exact .inl ⟨h0.1, h0.2.2, List.eq_nil_of_length_eq_zero h1⟩
  · simp only [Value.slice.injEq] at h0
    obtain ⟨rfl, hm, rfl⟩ := h0
    subst hm
    refine .inr ⟨g', rfl, h2, h3, hb, (Array.getElem?_eq_some_iff.1 hc).1, fun j u hu => ?_⟩
    have hj := (List.getElem?_eq_some_iff.1 hu).1
    rw [icells, List.length_map] at hj
    rw [h.cellAt j (by omega), hu]
theorem rows_apart {w : World} {b1 b2 n1 n2 : Nat} {v1 v2 : Value} {x1 x2 : List Value} (h1 : w.ownsRow b1 3 1 v1 n1 x1) (h2 : w.ownsRow b2 77 3 v2 n2 x2) : ∀ g, v1.ownBlock = some g → v2.ownBlock ≠ some g := fun g hg hg' => by
  obtain ⟨cur, hc⟩ := row_block h1 hg
  obtain ⟨cur', hc'⟩ := row_block h2 hg'
  rw [hc] at hc'; cases hc'
theorem old_true {s : St} {now : Int} {c : C} (h1 : c.since ≤ now) (h2 : s.wait ≤ wrap64 (now - c.since)) : old s now c = true := by simp [old, h1, h2]
theorem old_false1 {s : St} {now : Int} {c : C} (h1 : ¬ c.since ≤ now) : old s now c = false := by simp [old, h1]
theorem old_false2 {s : St} {now : Int} {c : C} (h2 : ¬ s.wait ≤ wrap64 (now - c.since)) : old s now c = false := by simp [old, h2]
/-- What the loop holds. -/
structure EM (w wr : World) (s : St) (now : Int) (i : Nat) (vo : Value) (o : List Int) (vl : Value) (lf : List C) : Prop where
  ex : Ex s now i o lf
  ro : wr.ownsRow w.heap.size 3 1 vo o.length (icells o)
  rl : wr.ownsRow w.heap.size 77 3 vl lf.length (ccs lf)
  be : Below w.heap.size w wr
theorem rexpire_any {w : World} {B : Nat} {F : Nat → Prop} {q : Nat} {s : St} (h : RefM w B F q s) (hl : s.free.length < 4398046511100) (hB : B ≤ w.heap.size) (now : Int) :
    Calls Try.prog 32 #[.pointer (some ⟨q, 0, none⟩), .int .i64 now] w fun e' w' => ∃ v, e' = .returned v ∧ w'.ownsRow w.heap.size 3 1 v (expire s now).1.length (icells (expire s now).1) ∧ RPost w B F q (expire s now).2 w' := by
  obtain ⟨vb, vf, vk, hM⟩ := h
  obtain ⟨fo, fc, rfl⟩ := ownsRow_shape hM.rf
  obtain ⟨i0, hi, hz0, hz1, hz2⟩ := info_parts info77
  obtain ⟨j0, hj, hy0, hy1, hy2⟩ := info_parts info3
  have hfm := Lib.hid (show s.free.length < 8796093022208 by omega)
  replace hM := Lib.hid hM
  replace hi := Lib.hid hi
  replace hz0 := Lib.hid hz0
  replace hz1 := Lib.hid hz1
  replace hz2 := Lib.hid hz2
  replace hj := Lib.hid hj
  replace hy0 := Lib.hid hy0
  replace hy1 := Lib.hid hy1
  replace hy2 := Lib.hid hy2
  go_enter Try.func32, Try.ntmps32
  go_wp2
  go_loopg [5, 6, 7] s.free.length (fun gg vo vl iv wr => ∃ (i : Nat) (o : List Int) (lf : List C), i ≤ s.free.length ∧ gg = s.free.length - i ∧ iv = .int .i64 i ∧ EM w wr s now i vo o vl lf)
  case atStart => exact ⟨0, [], [], Nat.zero_le _, rfl, rfl, ⟨Ex.zero s now, World.ownsRow_nil _ _ _ _, World.ownsRow_nil _ _ _ _, Below.refl _ _⟩⟩
  case round =>
    obtain ⟨i, o, lf, hin, rfl, rfl, hE⟩ := hrel
    have hMr := hM.out.tch (S := No) (Tch.of_below hE.be) (fun _ _ h => h)
    obtain ⟨oo, oc, rfl⟩ := ownsRow_shape hE.ro
    obtain ⟨lo, lc, rfl⟩ := ownsRow_shape hE.rl
    by_cases hil : i < s.free.length
    · have hx := List.getElem?_eq_getElem hil
      generalize s.free[i] = c at *
      obtain ⟨g, hfo, d0, d1, d2⟩ := row_at hMr.rf hx
      have c3 : wr.cell? ⟨q, 3, none⟩ = some (.slice (some ⟨g, 0, none⟩) s.free.length fc) := (cell_of_row _ _ 3 _ _ _ hMr.hq).trans (by rw [hfo]; rfl)
      have ki := nn_lt hil
      have hEx := Lib.hid hE.ex
      have hol := hE.ex.ol
      have hll := hE.ex.ll
      obtain ⟨w3, hw3⟩ : ∃ w3, w3 = wr.alloc (.cells #[.int .i64 c.id, .string c.ep, .int .i64 c.since] 77) := ⟨_, rfl⟩
      have hT3 : Tch No wr w3 := by rw [hw3]; exact Tch.alloc No wr _
      obtain ⟨cb, hcb⟩ : ∃ cb, cb = wr.heap.size := ⟨_, rfl⟩
      have hbx : w3.heap[cb]? = some (.cells #[.int .i64 c.id, .string c.ep, .int .i64 c.since] 77) := by rw [hw3, hcb]; exact heap_alloc_new wr _
      have hO3 := Lib.hid (ownsRow_tch hE.ro hT3 (fun _ _ h => h))
      have hL3 := Lib.hid (ownsRow_tch hE.rl hT3 (fun _ _ h => h))
      have hb3 := Lib.hid (Tch.below hE.be hT3 hE.be.size (fun _ h => h.elim))
      have c1 : w3.cell? ⟨q, 1, none⟩ = some (.int .i64 s.wait) := hT3.cell_some ((cell_of_row _ _ 1 _ _ _ hMr.hq).trans rfl) id
      replace hx := Lib.hid hx
      replace hE := Lib.hid hE
      replace hMr := Lib.hid hMr
      replace hT3 := Lib.hid hT3
      go_upto_region 9 with fail
      rw [← hw3, ← hcb]
      clear d0 d1 d2 c3
      have b0 : w3.cell? ⟨cb, 0, none⟩ = some (.int .i64 c.id) := (cell_of_row _ _ 0 _ _ _ hbx).trans rfl
      have b1 : w3.cell? ⟨cb, 1, none⟩ = some (.string c.ep) := (cell_of_row _ _ 1 _ _ _ hbx).trans rfl
      have b2 : w3.cell? ⟨cb, 2, none⟩ = some (.int .i64 c.since) := (cell_of_row _ _ 2 _ _ _ hbx).trans rfl
      replace hw3 := Lib.hid hw3
      replace hcb := Lib.hid hcb
      replace hbx := Lib.hid hbx
      replace hfo := Lib.hid hfo
      by_cases h1 : c.since ≤ now
      · have k1 := decide_eq_true h1
        by_cases h2 : s.wait ≤ wrap64 (now - c.since)
        · have k2 := decide_eq_true h2
          have hot := Lib.hid (old_true h1 h2)
          replace h1 := Lib.hid h1
          replace h2 := Lib.hid h2
          go_upto_block 2 with fail
          go_cut [10] (fun kv wx => ∃ k : Nat, k ≤ o.length ∧ kv = .int .i64 k ∧ (∀ y ∈ o.take k, y < c.id) ∧ (∀ y ∈ o.drop k, c.id ≤ y) ∧ Tch No w3 wx)
          case first =>
            go_wp2
            go_loopg [10] o.length (fun gg kv wx => ∃ k : Nat, k ≤ o.length ∧ gg = o.length - k ∧ kv = .int .i64 k ∧ (∀ y ∈ o.take k, y < c.id) ∧ Tch No w3 wx)
            case atStart => exact ⟨0, Nat.zero_le _, rfl, rfl, by simp, Tch.refl _ _⟩
            case round =>
              obtain ⟨k, hk, rfl, rfl, hlow, hTx⟩ := hrel
              have b0x : wr.cell? ⟨cb, 0, none⟩ = some (.int .i64 c.id) := hTx.cell_some b0 id
              have hOx := Lib.hid (ownsRow_tch hO3.out hTx (fun _ _ h => h))
              replace hlow := Lib.hid hlow
              replace hTx := Lib.hid hTx
              by_cases hko : k < o.length
              · have hy := List.getElem?_eq_getElem hko
                generalize o[k] = y at *
                obtain ⟨og, hoo, dk⟩ := irow_at hOx.out hy
                subst hoo
                have kk := nn_lt hko
                by_cases hyx : y < c.id
                · have k3 := decide_eq_true hyx
                  replace hy := Lib.hid hy
                  replace hyx := Lib.hid hyx
                  go_upto_region 12 with fail
                  go_quiet (fail)
                  go_wp2
                  go_roundg (o.length - (k + 1))
                  case rel => exact ⟨k + 1, hko, rfl, by first | rfl | rw [nn_succ hko (by omega)] | (push_cast; rfl), take_lt hy.out hyx.out hlow.out, hTx.out.trans (Tch.drewN No wr nq) (fun _ h => .inl h)⟩
                  case measure => exact nn_sub hko
                · have k3 := decide_eq_false hyx
                  have hhigh := Lib.hid (drop_ge hEx.out.so hy hyx)
                  replace hy := Lib.hid hy
                  replace hyx := Lib.hid hyx
                  go_upto_region 12 with fail
                  go_quiet (fail)
                  go_wp2
                  go_meet
                  exact ⟨k, hk, rfl, hlow.out, hhigh.out, hTx.out.trans (Tch.drewN No wr nq) (fun _ h => .inl h)⟩
              · have hke := nn_eq hk hko
                have kk := nn_ge hko
                have hhigh := Lib.hid (show ∀ y ∈ o.drop k, c.id ≤ y from by rw [hke, List.drop_length]; simp)
                replace hke := Lib.hid hke
                go_upto_region 12 with fail
                go_quiet (fail)
                go_wp2
                go_meet
                exact ⟨k, hk, rfl, hlow.out, hhigh.out, hTx.out.trans (Tch.drewN No wr nq) (fun _ h => .inl h)⟩
          case rest =>
            obtain ⟨k, hk, rfl, hlow, hhigh, hTx⟩ := hcut
            replace b0 : wc.cell? ⟨cb, 0, none⟩ = some (.int .i64 c.id) := hTx.cell_some b0 id
            have hOx := ownsRow_tch hO3.out hTx (fun _ _ h => h)
            have hLx := Lib.hid (ownsRow_tch hL3.out hTx (fun _ _ h => h))
            have hbx := Lib.hid (Tch.below hb3.out hTx hb3.out.size (fun _ h => h.elim))
            have hlt := Lib.hid (show (icells (o.take k)).length = k by simp [icells]; omega)
            have hld := Lib.hid (show (icells (o.drop k)).length = o.length - k by simp [icells])
            have hlr := Lib.hid (show (o.take k ++ [c.id] ++ o.drop k).length = 0 + k + 1 + (o.length - k) by simp; omega)
            have hcr := Lib.hid (show icells (o.take k ++ [c.id] ++ o.drop k) = [] ++ icells (o.take k) ++ [.int .i64 c.id] ++ icells (o.drop k) by simp [icells])
            have q1 := nn_nonneg k
            have q3 : (k : Int) ≤ (o.length : Int) := by omega
            replace hlow := Lib.hid hlow
            replace hhigh := Lib.hid hhigh
            replace hTx := Lib.hid hTx
            clear b1 b2 c1 k1 k2 hO3 hL3
            rcases irow_cases hOx with ⟨rfl, rfl, hnil⟩ | ⟨g, rfl, hcap, hcm, hbg, hgx, hcells⟩
            · have hk0 : k = 0 := by rw [hnil] at hk; simpa using hk
              have hn0 : o.length = 0 := by rw [hnil]; rfl
              replace hOx := Lib.hid hOx
              replace hnil := Lib.hid hnil
              subst hk0
              go_upto_region 16 with (first
                | (at_builtin; refine wp_append_ints rfl _ _ 22 rfl w.heap.size 3 j0 (.int .i64 0) 8 Try.underlying22 hj.out hy0.out hy1.out hy2.out rfl (.slice none 0 0) 0 [] rfl (World.ownsRow_nil _ _ _ _) none 0 0 (icells (o.take 0)) rfl (fun _ => ⟨by omega, rfl⟩) (by rw [hlt.out]) (fun j u hu => by have := (List.getElem?_eq_some_iff.1 hu).1; rw [hlt.out] at this; omega) (icells_one _) (by unfold maxLen; omega) (by omega) hbx.out.size ?_; intro v5 w5 hr5 hg5 hl5; have hT5 := Lib.hid (show Tch No wc w5 from Tch.grown hg5 (fun z hz => by simp [Value.ownBlock] at hz)); replace hr5 := Lib.hid hr5; replace hl5 := Lib.hid hl5; clear hg5)
                | fail)
              have b5 : w5.cell? ⟨cb, 0, none⟩ = some (.int .i64 c.id) := hT5.out.cell_some b0 id
              have hz5 := Lib.hid (Nat.le_trans hbx.out.size hT5.out.size)
              have hge5 := Lib.hid (show ∀ g, v5.ownBlock = some g → wc.heap.size ≤ g from fun g hg => (hl5.out g hg).elim (fun h => by simp [Value.ownBlock] at h) id)
              go_upto_region 17 with (first
                | (at_builtin; refine wp_append_one rfl _ _ 22 rfl w.heap.size 3 j0 (.int .i64 0) 8 Try.underlying22 hj.out hy0.out hy1.out hy2.out rfl v5 (0 + 0) _ rfl hr5.out 1 rfl rfl (by unfold maxLen; omega) (by omega) hz5.out ?_; intro v6 w6 hr6 hg6 hl6; have hT6 := Lib.hid (show Tch No wc w6 from hT5.out.trans (Tch.grown (S := fun z => v5.ownBlock = some z) hg6 (fun z hz => .inl hz)) (fun z hz => .inr (hge5.out z hz))); have hge6 := Lib.hid (show ∀ g, v6.ownBlock = some g → wc.heap.size ≤ g from fun g hg => (hl6 g hg).elim (hge5.out g) (fun h => Nat.le_trans hT5.out.size h)); replace hr6 := Lib.hid hr6; clear hg6 hl6)
                | fail)
              have hz6 := Lib.hid (Nat.le_trans hbx.out.size hT6.out.size)
              go_wp2_with (first
                | (at_builtin; refine wp_append_ints rfl _ _ 22 rfl w.heap.size 3 j0 (.int .i64 0) 8 Try.underlying22 hj.out hy0.out hy1.out hy2.out rfl v6 (0 + 0 + 1) _ rfl hr6.out none 0 0 (icells (o.drop 0)) rfl (fun _ => ⟨by omega, rfl⟩) (by rw [hld.out]; omega) (fun j u hu => by have := (List.getElem?_eq_some_iff.1 hu).1; rw [hld.out] at this; omega) (icells_one _) (by unfold maxLen; omega) (by omega) hz6.out ?_; intro v7 w7 hr7 hg7 hl7; have hT7 := Lib.hid (show Tch No wc w7 from hT6.out.trans (Tch.grown (S := fun z => v6.ownBlock = some z) hg7 (fun z hz => .inl hz)) (fun z hz => .inr (hge6.out z hz))); replace hr7 := Lib.hid hr7; clear hg7 hl7)
                | fail)
              go_roundg (s.free.length - (i + 1))
              case rel => exact ⟨i + 1, o.take 0 ++ [c.id] ++ o.drop 0, lf, hil, rfl, by first | rfl | rw [nn_succ hil hfm.out] | (push_cast; rfl), ⟨hEx.out.out hx.out hot.out hlow.out hhigh.out, by rw [hlr.out, hcr.out]; have h0 : o.length - 0 = 0 := (by omega); rw [h0]; exact hr7.out, ownsRow_tch hLx.out hT7.out (fun _ _ h => h), Tch.below hbx.out hT7.out hbx.out.size (fun _ h => h.elim)⟩⟩
              case measure => exact nn_sub hil
            · have hn1 := Lib.hid (show ∀ (j : Nat) (u : Value), (icells (o.take k))[j]? = some u → wc.cell? ((⟨g, 0, none⟩ : Addr).add j) = some u from fun j u hu => by
                rw [add_zero_at]
                refine hcells j u ?_
                have := (List.getElem?_eq_some_iff.1 hu).1
                rw [← List.take_append_drop k o, icells, List.map_append, List.getElem?_append_left this]
                exact hu)
              have hn2 := Lib.hid (show ∀ (wy : World), Tch No wc wy → ∀ (j : Nat) (u : Value), (icells (o.drop k))[j]? = some u → wy.cell? ((⟨g, k, none⟩ : Addr).add j) = some u from fun wy ty j u hu => by
                rw [add_at]
                refine ty.cell_some (hcells (k + j) u ?_) id
                rw [icells, List.getElem?_map, List.getElem?_drop] at hu
                rw [icells, List.getElem?_map]
                exact hu)
              replace hOx := Lib.hid hOx
              replace hcells := Lib.hid hcells
              have q2 : (k : Int) ≤ (oc : Int) := by omega
              rcases Nat.lt_or_ge k oc with hkc | hkc
              · have q4 : (k : Int) < (oc : Int) := by omega
                go_upto_region 16 with (first
                  | (at_builtin; refine wp_append_ints rfl _ _ 22 rfl w.heap.size 3 j0 (.int .i64 0) 8 Try.underlying22 hj.out hy0.out hy1.out hy2.out rfl (.slice none 0 0) 0 [] rfl (World.ownsRow_nil _ _ _ _) (some ⟨g, 0, none⟩) k oc (icells (o.take k)) rfl (fun h => by cases h) (by rw [hlt.out]) (fun j u hu => ⟨_, rfl, hn1.out j u hu⟩) (icells_one _) (by unfold maxLen; omega) (by omega) hbx.out.size ?_; intro v5 w5 hr5 hg5 hl5; have hT5 := Lib.hid (show Tch No wc w5 from Tch.grown hg5 (fun z hz => by simp [Value.ownBlock] at hz)); replace hr5 := Lib.hid hr5; replace hl5 := Lib.hid hl5; clear hg5)
                  | fail)
                have b5 : w5.cell? ⟨cb, 0, none⟩ = some (.int .i64 c.id) := hT5.out.cell_some b0 id
                have hz5 := Lib.hid (Nat.le_trans hbx.out.size hT5.out.size)
                have hge5 := Lib.hid (show ∀ g, v5.ownBlock = some g → wc.heap.size ≤ g from fun g hg => (hl5.out g hg).elim (fun h => by simp [Value.ownBlock] at h) id)
                go_upto_region 17 with (first
                  | (at_builtin; refine wp_append_one rfl _ _ 22 rfl w.heap.size 3 j0 (.int .i64 0) 8 Try.underlying22 hj.out hy0.out hy1.out hy2.out rfl v5 (0 + k) _ rfl hr5.out 1 rfl rfl (by unfold maxLen; omega) (by omega) hz5.out ?_; intro v6 w6 hr6 hg6 hl6; have hT6 := Lib.hid (show Tch No wc w6 from hT5.out.trans (Tch.grown (S := fun z => v5.ownBlock = some z) hg6 (fun z hz => .inl hz)) (fun z hz => .inr (hge5.out z hz))); have hge6 := Lib.hid (show ∀ g, v6.ownBlock = some g → wc.heap.size ≤ g from fun g hg => (hl6 g hg).elim (hge5.out g) (fun h => Nat.le_trans hT5.out.size h)); replace hr6 := Lib.hid hr6; clear hg6 hl6)
                  | fail)
                have hz6 := Lib.hid (Nat.le_trans hbx.out.size hT6.out.size)
                go_wp2_with (first
                  | (at_builtin; refine wp_append_ints rfl _ _ 22 rfl w.heap.size 3 j0 (.int .i64 0) 8 Try.underlying22 hj.out hy0.out hy1.out hy2.out rfl v6 (0 + k + 1) _ rfl hr6.out (some ⟨g, k, none⟩) (o.length - k) (oc - k) (icells (o.drop k)) rfl (fun h => by cases h) (by rw [hld.out]) (fun j u hu => ⟨_, rfl, hn2.out w6 hT6.out j u hu⟩) (icells_one _) (by unfold maxLen; omega) (by omega) hz6.out ?_; intro v7 w7 hr7 hg7 hl7; have hT7 := Lib.hid (show Tch No wc w7 from hT6.out.trans (Tch.grown (S := fun z => v6.ownBlock = some z) hg7 (fun z hz => .inl hz)) (fun z hz => .inr (hge6.out z hz))); replace hr7 := Lib.hid hr7; clear hg7 hl7)
                  | fail)
                go_roundg (s.free.length - (i + 1))
                case rel => exact ⟨i + 1, o.take k ++ [c.id] ++ o.drop k, lf, hil, rfl, by first | rfl | rw [nn_succ hil hfm.out] | (push_cast; rfl), ⟨hEx.out.out hx.out hot.out hlow.out hhigh.out, by rw [hlr.out, hcr.out]; simpa using hr7.out, ownsRow_tch hLx.out hT7.out (fun _ _ h => h), Tch.below hbx.out hT7.out hbx.out.size (fun _ h => h.elim)⟩⟩
                case measure => exact nn_sub hil
              · have hkc' : k = oc := by omega
                have hk1 : k = o.length := by omega
                subst hkc'
                replace hk1 := Lib.hid hk1
                go_upto_region 16 with (first
                  | (at_builtin; refine wp_append_ints rfl _ _ 22 rfl w.heap.size 3 j0 (.int .i64 0) 8 Try.underlying22 hj.out hy0.out hy1.out hy2.out rfl (.slice none 0 0) 0 [] rfl (World.ownsRow_nil _ _ _ _) (some ⟨g, 0, none⟩) k k (icells (o.take k)) rfl (fun h => by cases h) (by rw [hlt.out]) (fun j u hu => ⟨_, rfl, hn1.out j u hu⟩) (icells_one _) (by unfold maxLen; omega) (by omega) hbx.out.size ?_; intro v5 w5 hr5 hg5 hl5; have hT5 := Lib.hid (show Tch No wc w5 from Tch.grown hg5 (fun z hz => by simp [Value.ownBlock] at hz)); replace hr5 := Lib.hid hr5; replace hl5 := Lib.hid hl5; clear hg5)
                  | fail)
                have b5 : w5.cell? ⟨cb, 0, none⟩ = some (.int .i64 c.id) := hT5.out.cell_some b0 id
                have hz5 := Lib.hid (Nat.le_trans hbx.out.size hT5.out.size)
                have hge5 := Lib.hid (show ∀ g, v5.ownBlock = some g → wc.heap.size ≤ g from fun g hg => (hl5.out g hg).elim (fun h => by simp [Value.ownBlock] at h) id)
                go_upto_region 17 with (first
                  | (at_builtin; refine wp_append_one rfl _ _ 22 rfl w.heap.size 3 j0 (.int .i64 0) 8 Try.underlying22 hj.out hy0.out hy1.out hy2.out rfl v5 (0 + k) _ rfl hr5.out 1 rfl rfl (by unfold maxLen; omega) (by omega) hz5.out ?_; intro v6 w6 hr6 hg6 hl6; have hT6 := Lib.hid (show Tch No wc w6 from hT5.out.trans (Tch.grown (S := fun z => v5.ownBlock = some z) hg6 (fun z hz => .inl hz)) (fun z hz => .inr (hge5.out z hz))); have hge6 := Lib.hid (show ∀ g, v6.ownBlock = some g → wc.heap.size ≤ g from fun g hg => (hl6 g hg).elim (hge5.out g) (fun h => Nat.le_trans hT5.out.size h)); replace hr6 := Lib.hid hr6; clear hg6 hl6)
                  | fail)
                have hz6 := Lib.hid (Nat.le_trans hbx.out.size hT6.out.size)
                go_wp2_with (first
                  | (at_builtin; refine wp_append_ints rfl _ _ 22 rfl w.heap.size 3 j0 (.int .i64 0) 8 Try.underlying22 hj.out hy0.out hy1.out hy2.out rfl v6 (0 + k + 1) _ rfl hr6.out (some ⟨g, 0, none⟩) 0 0 (icells (o.drop k)) rfl (fun h => by cases h) (by rw [hld.out]; have := hk1.out; omega) (fun j u hu => by have h0 := hk1.out; have := (List.getElem?_eq_some_iff.1 hu).1; rw [hld.out] at this; omega) (icells_one _) (by unfold maxLen; omega) (by omega) hz6.out ?_; intro v7 w7 hr7 hg7 hl7; have hT7 := Lib.hid (show Tch No wc w7 from hT6.out.trans (Tch.grown (S := fun z => v6.ownBlock = some z) hg7 (fun z hz => .inl hz)) (fun z hz => .inr (hge6.out z hz))); replace hr7 := Lib.hid hr7; clear hg7 hl7)
                  | fail)
                go_roundg (s.free.length - (i + 1))
                case rel => exact ⟨i + 1, o.take k ++ [c.id] ++ o.drop k, lf, hil, rfl, by first | rfl | rw [nn_succ hil hfm.out] | (push_cast; rfl), ⟨hEx.out.out hx.out hot.out hlow.out hhigh.out, by rw [hlr.out, hcr.out]; have h0 : o.length - k = 0 := (by have := hk1.out; omega); rw [h0]; exact hr7.out, ownsRow_tch hLx.out hT7.out (fun _ _ h => h), Tch.below hbx.out hT7.out hbx.out.size (fun _ h => h.elim)⟩⟩
                case measure => exact nn_sub hil
        · have k2 := decide_eq_false h2
          have hof := Lib.hid (old_false2 (s := s) (now := now) (c := c) h2)
          replace h1 := Lib.hid h1
          replace h2 := Lib.hid h2
          go_wp2_with (first
            | (at_builtin; refine wp_append_three rfl _ _ 63 rfl w.heap.size 77 i0 (.agg #[.int .i64 0, .string ⟨#[]⟩, .int .i64 0]) 32 Try.underlying63 hi.out hz0.out hz1.out hz2.out rfl _ _ _ rfl hL3.out 1 rfl (by simp [Value.oneCell']) (by unfold maxLen; omega) (by omega) hb3.out.size ?_; intro v' w4 hr4 hg4 hl4)
            | fail)
          go_roundg (s.free.length - (i + 1))
          case rel => exact ⟨i + 1, o, lf ++ [c], hil, rfl, by first | rfl | rw [nn_succ hil hfm.out] | (push_cast; rfl), ⟨hEx.out.left hx.out hof.out, ownsRow_tch hO3.out (Tch.grown (S := fun k => (Value.slice lo lf.length lc).ownBlock = some k) hg4 (fun k hk => .inl hk)) (fun g hg he => rows_apart hO3.out hL3.out g hg he), by simpa [ccs, cc] using hr4, hb3.out.grown hg4 hb3.out.size (fun j hj => (ownsRow_ge hL3.out hj).1)⟩⟩
          case measure => exact nn_sub hil
      · have k1 := decide_eq_false h1
        have hof := Lib.hid (old_false1 (s := s) (now := now) (c := c) h1)
        replace h1 := Lib.hid h1
        go_wp2_with (first
          | (at_builtin; refine wp_append_three rfl _ _ 63 rfl w.heap.size 77 i0 (.agg #[.int .i64 0, .string ⟨#[]⟩, .int .i64 0]) 32 Try.underlying63 hi.out hz0.out hz1.out hz2.out rfl _ _ _ rfl hL3.out 1 rfl (by simp [Value.oneCell']) (by unfold maxLen; omega) (by omega) hb3.out.size ?_; intro v' w4 hr4 hg4 hl4)
          | fail)
        go_roundg (s.free.length - (i + 1))
        case rel => exact ⟨i + 1, o, lf ++ [c], hil, rfl, by first | rfl | rw [nn_succ hil hfm.out] | (push_cast; rfl), ⟨hEx.out.left hx.out hof.out, ownsRow_tch hO3.out (Tch.grown (S := fun k => (Value.slice lo lf.length lc).ownBlock = some k) hg4 (fun k hk => .inl hk)) (fun g hg he => rows_apart hO3.out hL3.out g hg he), by simpa [ccs, cc] using hr4, hb3.out.grown hg4 hb3.out.size (fun j hj => (ownsRow_ge hL3.out hj).1)⟩⟩
        case measure => exact nn_sub hil
    · have hke := nn_eq hin hil
      have ki := nn_ge hil
      obtain ⟨ed1, ed2⟩ := (show Ex s now s.free.length o lf by rw [← hke]; exact hE.ex).done
      have es : (expire s now).2 = { s with free := lf } := by rw [ed2]; rfl
      obtain ⟨f3, c3, hP⟩ := hM.out.freeBut hB hE.rl hE.be
      have hR := ownsRow_tch hE.ro (Tch.setCell (S := fun k => k = q) wr (p := ⟨q, 3, none⟩) rfl (.slice lo lf.length lc)) (fun g hg he => by
        have h1 := (ownsRow_ge hE.ro hg).1
        have h2 := (hM.out.lt q hM.out.own.1).2
        omega)
      have hln := Lib.hid hE.ex
      replace hke := Lib.hid hke
      replace ed1 := Lib.hid ed1
      replace ed2 := Lib.hid ed2
      replace es := Lib.hid es
      replace hE := Lib.hid hE
      replace hMr := Lib.hid hMr
      replace hP := Lib.hid hP
      replace hR := Lib.hid hR
      go_wp2
      go_ret
      rw [es.out, ← ed1.out]
      exact ⟨_, rfl, hR.out, hP.out⟩
end Go.Proofs.Ytpebcamnmeppaaa
