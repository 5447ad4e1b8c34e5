/- Expire: the free ones that are there too long are collected, sorted, dropped. -/
import Derived.Test.YtpebcamnmeppaaaDrop
import Derived.Test.YtpebcamnmeppaaaShelf
import Derived.Sort.OwnSortedInts
import Derived.Maps.AppendAt
namespace Go.Mp
open Go.RowKit
theorem grownBy_alloc_left {w w' : World} {o : Obj} {row : Option Nat} (h : (w.alloc o).grownBy w' row) : w.grownBy w' row :=
  ⟨h.os, h.tape, h.output, Nat.le_trans (by simp) h.size, fun k hk hne => (h.block k (by simp; omega) hne).trans (Below.heap_alloc w o k hk)⟩
/-- 'append(v, x)', x of one cell: the law with its side goals filled; what is behind it lies in the old row or in a new block. -/
theorem wp_append_one {P : Program} {w : World} {ops : Array Oper} {rest : List Oper} {o : Oper} {a : Act} {Q : Exit → Act → World → Prop} {u : Value} {e' : TypeId} (hgd : o.guard = none) (s x : Operand) (t : TypeId)
    (ho : o.op = .call { callee := .builtin .append, args := #[s, x], argTypes := #[t, t] })
    (base : Nat) (e : TypeId) (i : TypeInfo) (z : Value) (bytes : Nat) (ht : P.underlying t = some (.slice e)) (hi : P.info? e = some i) (hz : i.zero = some z)
    (hsize : i.size = 1) (hby : i.bytes = bytes) (hzs : z.cells.size = 1)
    (v : Value) (n : Nat) (xs : List Value) (hs : a.eval s = v) (hown : w.ownsRow base e 1 v n xs)
    (c : Nat) (hx : a.eval x = .slice (some ⟨w.heap.size, 0, none⟩) 1 c) (h1 : u.oneCell' = true)
    (h63 : n + 1 ≤ maxLen) (hbytes : (n + 1) * bytes ≤ 140737488355328) (hbase : base ≤ w.heap.size)
    (h : ∀ v' w', w'.ownsRow base e 1 v' (n + 1) (xs ++ [u]) → w.grownBy w' v.ownBlock → (∀ g, v'.ownBlock = some g → v.ownBlock = some g ∨ w.heap.size ≤ g) → wpList P ops Q rest (a.put o.dst v') w') :
    wpList P ops Q (o :: rest) a (w.alloc (.cells #[u] e')) := by
  refine wpList_append_own_at _ hgd s x t ho base e i z 1 bytes ht hi hz hsize hby hzs (by decide) v n xs hs (hown.alloc _) ⟨w.heap.size, 0, none⟩ 1 c [u] hx rfl ?_ ?_ h63 hbytes ?_ ?_
  · intro j y hj
    match j, hj with
    | 0, hj => simp at hj; subst hj; simp [Addr.add]
  · intro y hy
    simp at hy; subst hy; exact h1
  · simp; omega
  · intro v' w' hown' hg hnil hloc
    refine h v' w' hown' (grownBy_alloc_left hg) ?_
    intro g hg'
    rcases hloc with hl | hl
    · exact .inl (by rw [← hl]; exact hg')
    · rw [hl] at hg'; cases hg'; exact .inr (by simp)
end Go.Mp
namespace Go.Proofs.Ytpebcamnmeppaaa
open Go.RowKit Go.Mp Go.Po
set_option linter.unusedVariables false
theorem info3 : (Try.prog.info? 3).map (fun i => (i.zero, i.size, i.bytes)) = some (some (.int .i64 0), 1, 8) := by kernel_rfl
abbrev icells (l : List Int) : List Value := l.map (Value.int .i64)
def leI (x y : Int) : Bool := decide (x ≤ y)
theorem mergeSort_of_perm {l l' : List Int} (h : l.Perm l') : (l.mergeSort fun x y => decide (x ≤ y)) = l'.mergeSort fun x y => decide (x ≤ y) := by
  have tr : ∀ (a b c : Int), decide (a ≤ b) = true → decide (b ≤ c) = true → decide (a ≤ c) = true := by simp; omega
  have tot : ∀ (a b : Int), (decide (a ≤ b) || decide (b ≤ a)) = true := by simp; omega
  exact List.Perm.eq_of_pairwise (le := fun a b => decide (a ≤ b) = true) (fun a b _ _ h1 h2 => by simp at h1 h2; omega) (List.pairwise_mergeSort tr tot l) (List.pairwise_mergeSort tr tot l') (((List.mergeSort_perm l _).trans h).trans (List.mergeSort_perm l' _).symm)
theorem sort_own {w : World} {base : Nat} {v : Value} {zs : List Int} (hown : w.ownsRow base 3 1 v zs.length (icells zs)) (hl : zs.length < 4611686018427387904) : Calls Try.prog 24 #[v] w fun e w' => e = .returned (.tuple #[]) ∧ w'.ownsRow base 3 1 v zs.length (icells (zs.mergeSort fun x y => decide (x ≤ y))) ∧ w.grownBy w' v.ownBlock := by
  rcases hown.2 with ⟨rfl, h0⟩ | ⟨g, cap, cur, rfl, hb, hg, h1, h2, h3, h4⟩
  · have hz : zs = [] := List.eq_nil_of_length_eq_zero h0
    subst hz
    refine (Try.slices_Sort_int_none none 0 w).mono ?_
    rintro e w' ⟨rfl, rfl⟩
    exact ⟨rfl, by simpa using hown, ⟨rfl, rfl, rfl, Nat.le_refl _, fun _ _ _ => rfl⟩⟩
  · refine (Try.slices_Sort_int g 0 cap zs w (holds_of_blockI hg (by rw [Nat.mul_one] at h4; exact h4)) (Array.getElem?_eq_some_iff.1 hg).1 hl).mono ?_
    rintro e w' ⟨rfl, n, os, rfl⟩
    exact ⟨rfl, ownsRow_sortedI (List.length_mergeSort zs) hb hg h1 h2 h3, grownBy_sortedI _⟩
theorem ownsRow_tch {S : Nat → Prop} {w w' : World} {base e size n : Nat} {v : Value} {xs : List Value} (h : w.ownsRow base e size v n xs) (t : Tch S w w') (hn : ∀ g, v.ownBlock = some g → ¬ S g) : w'.ownsRow base e size v n xs := by
  refine ⟨h.1, ?_⟩
  rcases h.2 with h0 | ⟨g, cap, cur, rfl, hb, hg, r⟩
  · exact .inl h0
  · exact .inr ⟨g, cap, cur, rfl, hb, (t.block g (Array.getElem?_eq_some_iff.1 hg).1 (hn g rfl)).trans hg, r⟩
theorem ownsRow_ge {w : World} {base e size n : Nat} {v : Value} {xs : List Value} (h : w.ownsRow base e size v n xs) {g : Nat} (hg : v.ownBlock = some g) : base ≤ g ∧ g < w.heap.size := by
  rcases h.2 with ⟨rfl, _⟩ | ⟨g', cap, cur, rfl, hb, hg', r⟩
  · cases hg
  · cases hg; exact ⟨hb, (Array.getElem?_eq_some_iff.1 hg').1⟩
theorem ownsRow_shape {w : World} {base e size n : Nat} {v : Value} {xs : List Value} (h : w.ownsRow base e size v n xs) : ∃ ao cap, v = .slice ao n cap := by
  rcases h.2 with ⟨rfl, rfl⟩ | ⟨g, cap, cur, rfl, _⟩
  · exact ⟨none, 0, rfl⟩
  · exact ⟨_, _, rfl⟩
theorem ownsRow_base {w : World} {base base' e size n : Nat} {v : Value} {xs : List Value} (h : w.ownsRow base e size v n xs) (hb : base' ≤ base) : w.ownsRow base' e size v n xs := by
  refine ⟨h.1, ?_⟩
  rcases h.2 with h0 | ⟨g, cap, cur, hv, h1, r⟩
  · exact .inl h0
  · exact .inr ⟨g, cap, cur, hv, by omega, r⟩
/-- The dropping of several. -/
theorem drops_eq (s : St) : ∀ L : List Int, L.foldl dropS s = { s with busy := s.busy.filter fun c => !(decide (c.id ∈ L)), free := s.free.filter fun c => !(decide (c.id ∈ L)) }
  | [] => by
    cases s
    simp only [List.foldl_nil, List.not_mem_nil, decide_false, Bool.not_false]
    rw [List.filter_eq_self.2 (fun _ _ => rfl), List.filter_eq_self.2 (fun _ _ => rfl)]
  | i :: L => by
    rw [List.foldl_cons, drops_eq (dropS s i) L]
    simp only [dropS, but, List.filter_filter]
    congr 1 <;> (apply List.filter_congr; intro c _; by_cases h1 : c.id = i <;> by_cases h2 : c.id ∈ L <;> simp [h1, h2])
theorem expired_busy {s : St} (h : Inv s) {now : Int} {d : C} (hd : d ∈ s.busy) : ¬ ∃ c ∈ s.free, c.id = d.id ∧ old s now c = true := fun ⟨c, hc, he, _⟩ => nd_apart h hd hc he.symm
/-- What was collected. -/
def Coll (s : St) (now : Int) (left : Int → Prop) (L : List Int) : Prop := L.Nodup ∧ ∀ i, i ∈ L ↔ ∃ c ∈ s.free, c.id = i ∧ old s now c = true ∧ ¬ left i
theorem len_le : ∀ {L M : List Int}, L.Nodup → (∀ i ∈ L, i ∈ M) → L.length ≤ M.length
  | [], _, _, _ => Nat.zero_le _
  | a :: L, M, hn, hs => by
    have ha := hs a List.mem_cons_self
    have h1 := len_le (L := L) (M := M.erase a) (List.nodup_cons.1 hn).2 (fun i hi => (List.mem_erase_of_ne (fun e => (List.nodup_cons.1 hn).1 (by rw [← e]; exact hi))).2 (hs i (List.mem_cons_of_mem _ hi)))
    have h2 := List.length_erase_of_mem ha
    have h3 := List.length_pos_of_mem ha
    rw [List.length_cons]; omega
theorem coll_len {s : St} (h : Inv s) {now : Int} {left : Int → Prop} {L : List Int} (hc : Coll s now left L) : L.length ≤ s.free.length := by
  have hs : ∀ i ∈ L, i ∈ s.free.map C.id := fun i hi => by
    obtain ⟨c, hc, he, _⟩ := (hc.2 i).1 hi
    exact List.mem_map.2 ⟨c, hc, he⟩
  have := len_le hc.1 hs
  simpa using this
theorem coll_end {s : St} (h : Inv s) {now : Int} {left : Int → Prop} {L : List Int} (hc : Coll s now left L) (hl : ∀ i, ¬ left i) : L.Perm ((s.free.filter (old s now)).map C.id) := by
  refine (List.perm_ext_iff_of_nodup hc.1 (((List.filter_sublist).map C.id).nodup (nd_free h))).2 fun i => ?_
  rw [hc.2 i]
  constructor
  · rintro ⟨c, h1, h2, h3, _⟩
    exact List.mem_map.2 ⟨c, List.mem_filter.2 ⟨h1, h3⟩, h2⟩
  · intro hi
    obtain ⟨c, h1, h2⟩ := List.mem_map.1 hi
    obtain ⟨h3, h4⟩ := List.mem_filter.1 h1
    exact ⟨c, h3, h2, h4, hl i⟩
theorem coll_skip {s : St} {now : Int} {left : Int → Prop} {L : List Int} (hc : Coll s now left L) {i : Int} (hi : ¬ ∃ c ∈ s.free, c.id = i ∧ old s now c = true) : Coll s now (fun j => left j ∧ j ≠ i) L := by
  refine ⟨hc.1, fun j => ?_⟩
  rw [hc.2 j]
  constructor
  · rintro ⟨c, h1, h2, h3, h4⟩; exact ⟨c, h1, h2, h3, fun h => h4 h.1⟩
  · rintro ⟨c, h1, h2, h3, h4⟩
    exact ⟨c, h1, h2, h3, fun h => h4 ⟨h, fun e => hi ⟨c, h1, h2.trans e, h3⟩⟩⟩
theorem coll_add {s : St} {now : Int} {left : Int → Prop} {L : List Int} (hc : Coll s now left L) {c : C} (h1 : c ∈ s.free) (h2 : old s now c = true) (hl : left c.id) : Coll s now (fun j => left j ∧ j ≠ c.id) (L ++ [c.id]) := by
  have hn : c.id ∉ L := fun h => by
    obtain ⟨_, _, _, _, h4⟩ := (hc.2 _).1 h
    exact h4 hl
  refine ⟨List.nodup_append.2 ⟨hc.1, by simp, fun a ha b hb => by simp at hb; subst hb; rintro rfl; exact hn ha⟩, fun j => ?_⟩
  rw [List.mem_append, hc.2 j, List.mem_singleton]
  constructor
  · rintro (⟨d, e1, e2, e3, e4⟩ | rfl)
    · exact ⟨d, e1, e2, e3, fun h => e4 h.1⟩
    · exact ⟨c, h1, rfl, h2, fun h => h.2 rfl⟩
  · rintro ⟨d, e1, e2, e3, e4⟩
    by_cases hj : j = c.id
    · exact .inr hj
    · exact .inl ⟨d, e1, e2, e3, fun h => e4 ⟨h, hj⟩⟩
theorem drops_expire {s : St} (h : Inv s) {now : Int} {M : List Int} (hmm : ∀ i, i ∈ M ↔ ∃ c ∈ s.free, c.id = i ∧ old s now c = true) : M.foldl dropS s = (expire s now).2 := by
  have h1 : (s.busy.filter fun c => !(decide (c.id ∈ M))) = s.busy := by
    refine List.filter_eq_self.2 (fun d hd => ?_)
    have : d.id ∉ M := fun hh => expired_busy h hd ((hmm d.id).1 hh)
    simpa using this
  have h2 : (s.free.filter fun c => !(decide (c.id ∈ M))) = s.free.filter fun c => !old s now c := by
    refine List.filter_congr (fun d hd => ?_)
    have h1 : d.id ∈ M ↔ old s now d = true := by
      rw [hmm d.id]
      constructor
      · rintro ⟨c, h1, h2, h3⟩
        have := one_of h (List.mem_append_right _ h1) (List.mem_append_right _ hd) h2
        subst this; exact h3
      · intro hh; exact ⟨d, hd, rfl, hh⟩
    cases ho : old s now d
    · rw [ho] at h1
      have : d.id ∉ M := fun hh => by have := h1.1 hh; cases this
      simpa using this
    · rw [ho] at h1
      simpa using h1.2 rfl
  rw [drops_eq, h1, h2]
  rfl
theorem expire_any {w : World} {B : Nat} {F : Nat → Prop} {p n : Nat} {s : St} (h : PoolM w B F p s n) (now : Int) (hlen : s.free.length ≤ 4398046511104) : Calls Try.prog 11 #[.pointer (some ⟨p, 0, none⟩), .int .i64 now] w fun e' w' => ∃ v, e' = .returned v ∧ w'.ownsRow w.heap.size 3 1 v (expire s now).1.length (icells (expire s now).1) ∧ PoolM w' B F p (expire s now).2 n ∧ Tch F w w' := by
  obtain ⟨bc, bk, blk, turn, turns, g, f, h, htn⟩ := h
  have c1 : w.cell? ⟨p, 1, none⟩ = some (.int .i64 s.wait) := (cell_of_row _ _ 1 _ _ _ h.hp).trans rfl
  have c2 : w.cell? ⟨p, 2, none⟩ = some (.map (some bc)) := (cell_of_row _ _ 2 _ _ _ h.hp).trans rfl
  obtain ⟨i0, hi, hz0, hz1, hz2⟩ := info_parts info3
  have hH := Lib.hid h
  have hcon := h.conns
  have hpl : p < w.heap.size := (h.lt _ h.own.1).2
  have hc0 : Coll s now (fun k => f k ≠ none) [] := by
    refine ⟨List.nodup_nil, fun i => ⟨fun h => by simp at h, ?_⟩⟩
    rintro ⟨c, h1, h2, h3, h4⟩
    refine (h4 ?_).elim
    show f i ≠ none
    rw [← h2, h.fsome c (List.mem_append_right _ h1)]; simp
  replace hc0 := Lib.hid hc0
  clear h
  go_enter Try.func11, Try.ntmps11
  go_wp2_with (first | (at_range; refine wp_range rfl _ 52 rfl ik 56 Try.underlying52 bc f rfl hcon ?_; intro w0 hrg hb0 hs0) | fail)
  go_frame
  go_loopg [4] (w0.rangeLeft bc w.heap.size) (fun gg vo wr => ∃ (left : Int → Prop) (L : List Int), wr.ownsRow (w.heap.size + 1) 3 1 vo L.length (icells L) ∧ gg = wr.rangeLeft bc w.heap.size ∧ RangeS ik wr bc w.heap.size f left ∧ Below w.heap.size w wr ∧ w.heap.size + 1 ≤ wr.heap.size ∧ Coll s now left L)
  case atStart => exact ⟨_, [], World.ownsRow_nil _ _ _ _, rfl, hrg, hb0, by omega, hc0.out⟩
  case round =>
    obtain ⟨left, L, hrow, rfl, hrg, hbl, hsz, hcol⟩ := hrel
    go_wp2_with (first | (at_next; refine wp_next rfl _ rfl ik bc w.heap.size f left rfl hrg ?_ ?_) | fail)
    · intro hl0
      have hperm := coll_end hH.out.inv hcol hl0
      have hll := coll_len hH.out.inv hcol
      have hw : PoolM wr B F p s n := (show PoolM w B F p s n from ⟨bc, bk, blk, turn, turns, g, f, hH.out, htn⟩).tch (Tch.of_below (S := No) hbl) (fun _ _ h => h)
      have hF : ∀ k, F k → k < w.heap.size := fun k hk => (hH.out.lt k hk).2
      have hsrt := sort_own hrow (by omega)
      have hes : (expire s now).1 = L.mergeSort fun x y => decide (x ≤ y) := (mergeSort_of_perm hperm).symm
      have hlm : (L.mergeSort fun x y => decide (x ≤ y)).length = L.length := List.length_mergeSort L
      have hmm : ∀ i, i ∈ (L.mergeSort fun x y => decide (x ≤ y)) ↔ ∃ c ∈ s.free, c.id = i ∧ old s now c = true := fun i => by
        rw [List.mem_mergeSort, hcol.2 i]
        exact ⟨fun ⟨c, h1, h2, h3, _⟩ => ⟨c, h1, h2, h3⟩, fun ⟨c, h1, h2, h3⟩ => ⟨c, h1, h2, h3, hl0 i⟩⟩
      have hnd : (L.mergeSort fun x y => decide (x ≤ y)).Nodup := (List.mergeSort_perm L _).nodup_iff.2 hcol.1
      have hT0 : Tch F w wr := Tch.of_below hbl
      replace hes := Lib.hid hes
      replace hl0 := Lib.hid hl0
      replace hmm := Lib.hid hmm
      replace hperm := Lib.hid hperm
      replace hcol := Lib.hid hcol
      generalize (L.mergeSort fun x y => decide (x ≤ y)) = M at *
      clear hrg
      go_wp2_with (first | (go_at_call 24; refine hsrt.mono ?_; rintro _ w2 ⟨rfl, hrow2, hg2⟩; obtain ⟨ao, cap, rfl⟩ := ownsRow_shape hrow2) | fail)
      have hT2 : Tch F w w2 := hT0.trans (Tch.grown (S := fun k => w.heap.size ≤ k) hg2 (fun j hj => .inl (by have := (ownsRow_ge hrow hj).1; omega))) (fun k hk => .inr hk)
      have hw2 : PoolM w2 B F p s n := hw.tch (Tch.grown (S := fun k => w.heap.size ≤ k) hg2 (fun j hj => .inl (by have := (ownsRow_ge hrow hj).1; omega))) (fun k hk h => by have := hF k hk; omega)
      have hdead : ∀ (k : Nat) x, M[k]? = some x → ∃ c ∈ ((M.take k).foldl dropS s).all, c.id = x := by
        intro k x hx
        obtain ⟨c, h1, h2, h3⟩ := (hmm.out x).1 (List.mem_of_getElem? hx)
        refine ⟨c, ?_, h2⟩
        rw [drops_eq]
        refine List.mem_append_right _ (List.mem_filter.2 ⟨h1, ?_⟩)
        have : c.id ∉ M.take k := by
          rw [h2]
          intro hin
          obtain ⟨j, hj⟩ := List.mem_iff_getElem?.1 hin
          have hjk : j < k := by
            have := (List.getElem?_eq_some_iff.1 hj).1
            rw [List.length_take] at this; omega
          rw [List.getElem?_take_of_lt hjk] at hj
          obtain ⟨a1, a2⟩ := List.getElem?_eq_some_iff.1 hj
          obtain ⟨b1, b2⟩ := List.getElem?_eq_some_iff.1 hx
          have := (List.getElem_inj (h₀ := a1) (h₁ := b1) hnd).1 (a2.trans b2.symm)
          omega
        simpa using this
      have hML : M.length = L.length := hlm
      replace hdead := Lib.hid hdead
      replace hw := Lib.hid hw
      replace hsrt := Lib.hid hsrt
      replace hg2 := Lib.hid hg2
      replace hrow := Lib.hid hrow
      replace hT0 := Lib.hid hT0
      go_loopg [54] L.length (fun gg kc wx => ∃ k : Nat, k ≤ L.length ∧ gg = L.length - k ∧ kc = .int .i64 k ∧ wx.ownsRow (w.heap.size + 1) 3 1 (.slice ao L.length cap) L.length (icells M) ∧ PoolM wx B F p ((M.take k).foldl dropS s) n ∧ Tch F w wx)
      case atStart => exact ⟨0, by omega, by omega, rfl, hrow2, by simpa using hw2, hT2⟩
      case round =>
        obtain ⟨k, hk, rfl, rfl, hrowx, hwx, hTx⟩ := hrel
        by_cases hkl : k < L.length
        · have hkM : k < M.length := by omega
          have hx := List.getElem?_eq_getElem hkM
          obtain ⟨c, hcA, hcid⟩ := hdead.out _ _ hx
          have k0 : (k : Int) < (L.length : Int) := by omega
          obtain ⟨g', hao⟩ : ∃ g', ao = some ⟨g', 0, none⟩ := by
            rcases hrowx.2 with ⟨h0, h1⟩ | ⟨g', _, _, h0, _⟩
            · omega
            · cases h0; exact ⟨_, rfl⟩
          subst hao
          have hcell : wr.cell? ⟨g', k, none⟩ = some (.int .i64 c.id) := by
            have := hrowx.cellAt k (by omega)
            rw [this]
            simp [icells, hkM, hcid]
          have hdr := drop_any hwx hcA
          have hstep : (M.take (k + 1)).foldl dropS s = dropS ((M.take k).foldl dropS s) c.id := by
            rw [List.take_add_one, hx, ← hcid]
            simp
          replace hx := Lib.hid hx
          replace hcid := Lib.hid hcid
          replace hstep := Lib.hid hstep
          replace hrowx := Lib.hid hrowx
          go_wp2_with (first | (go_at_call 25; refine hdr.mono ?_; rintro _ w4 ⟨rfl, hP4, hT4⟩) | fail)
          go_roundg (L.length - (k + 1))
          case rel => exact ⟨k + 1, by omega, rfl, by push_cast; rfl, ownsRow_tch hrowx.out hT4 (fun g hg hf => by have h1 := (ownsRow_ge hrowx.out hg).1; have h2 := hF g hf; omega), by rw [hstep.out]; exact hP4, hTx.trans hT4 (fun _ h => .inl h)⟩
          case measure => omega
        · have hke : k = L.length := by omega
          have k0 : decide ((k : Int) < (L.length : Int)) = false := decide_eq_false (by omega)
          replace hke := Lib.hid hke
          replace hrowx := Lib.hid hrowx
          clear hdead
          go_wp2_with fail
          go_ret
          rw [hke.out] at hwx
          replace hrowx := hrowx.out
          have hfin : (M.take L.length).foldl dropS s = (expire s now).2 := by
            rw [← hML, List.take_length]
            exact drops_expire hH.out.inv hmm.out
          rw [hfin] at hwx
          rw [hes.out, hML]
          exact ⟨_, rfl, ownsRow_base hrowx (by omega), hwx, hTx⟩
    · intro k v w1 hlk hfk hrg1 hlt hg1 hs1 hen
      obtain ⟨c, hc, rfl, rfl⟩ := hH.out.of_some hfk
      have hb1 : Below w.heap.size w w1 := hbl.grown hg1 hbl.size (fun j hj => by cases hj; exact Nat.le_refl _)
      have hbk : blk c.id < w.heap.size := (hH.out.lt _ (hH.out.own.2.2.2 c hc)).2
      have c1' : w1.cell? ⟨p, 1, none⟩ = some (.int .i64 s.wait) := (hb1.cell hpl).trans c1
      replace hen : (Instr.entry (.pointer (some ⟨w.heap.size, 0, none⟩))).run Try.prog w1 = .ok (.tuple #[.int .i64 c.id, .pointer (some ⟨blk c.id, 0, none⟩)]) w1 := hen
      have hsz1 : w.heap.size + 1 ≤ w1.heap.size := by omega
      replace hs1 := Lib.hid hs1
      have hrow1 : w1.ownsRow (w.heap.size + 1) 3 1 u4 L.length (icells L) := ownsRow_tch hrow (Tch.grown (S := fun k => k = w.heap.size) hg1 (fun j hj => by cases hj; exact .inl rfl)) (fun g hg he => by have := (ownsRow_ge hrow hg).1; omega)
      rcases List.mem_append.1 hc with hcb | hcf
      · have hcc := hH.out.busy c hcb
        have d1 : w1.cell? ⟨blk c.id, 1, none⟩ = some (.bool false) := (hb1.cell hbk).trans ((cell_of_row _ _ 1 _ _ _ hcc).trans rfl)
        have hcol' := Lib.hid (coll_skip hcol (expired_busy hH.out.inv hcb))
        replace hcol := Lib.hid hcol
        replace hcc := Lib.hid hcc
        go_upto_region 6 with fail
        go_quiet (fail)
        go_wp2
        go_roundg (w1.rangeLeft bc w.heap.size)
        case rel => exact ⟨_, L, hrow1, rfl, hrg1.keep rfl rfl, hb1.trans ⟨rfl, rfl, rfl, Nat.le_refl _, fun _ _ => rfl⟩, hsz1, hcol'.out⟩
        case measure => exact hlt
      · have hcc := hH.out.free c hcf
        have d1 : w1.cell? ⟨blk c.id, 1, none⟩ = some (.bool true) := (hb1.cell hbk).trans ((cell_of_row _ _ 1 _ _ _ hcc).trans rfl)
        have d2 : w1.cell? ⟨blk c.id, 2, none⟩ = some (.int .i64 c.since) := (hb1.cell hbk).trans ((cell_of_row _ _ 2 _ _ _ hcc).trans rfl)
        replace hcc := Lib.hid hcc
        by_cases hq : c.since ≤ now
        · have k1 : decide (c.since ≤ now) = true := decide_eq_true hq
          by_cases hr : s.wait ≤ wrap64 (now - c.since)
          · have k2 : decide (s.wait ≤ wrap64 (now - c.since)) = true := decide_eq_true hr
            have hold : old s now c = true := by rw [old, k1, k2]; rfl
            have hcol' := Lib.hid (coll_add hcol hcf hold hlk)
            have hll := coll_len hH.out.inv hcol
            replace hcol := Lib.hid hcol
            replace hold := Lib.hid hold
            go_upto_region 6 with fail
            go_quiet (fail)
            have hrow2 : (w1.drewN nq).ownsRow (w.heap.size + 1) 3 1 u4 L.length (icells L) := hrow1
            go_wp2_with (first | (at_builtin; refine wp_append_one rfl _ _ 22 rfl (w.heap.size + 1) 3 i0 (.int .i64 0) 8 Try.underlying22 hi hz0 hz1 hz2 rfl _ _ _ rfl hrow2 1 rfl rfl (by unfold maxLen; omega) (by omega) hsz1 ?_; intro v' w3 hrow3 hg3 hloc3) | fail)
            go_roundg (w3.rangeLeft bc w.heap.size)
            case rel =>
              have hb3 : Below w.heap.size w w3 := (hb1.trans (⟨rfl, rfl, rfl, Nat.le_refl _, fun _ _ => rfl⟩ : Below w.heap.size w1 (w1.drewN nq))).grown hg3 (by show _ ≤ w1.heap.size; omega) (fun j hj => by have := (ownsRow_ge hrow1 hj).1; omega)
              refine ⟨_, L ++ [c.id], by simpa [icells] using hrow3, rfl, hrg1.keep ?_ ?_, hb3, Nat.le_trans hsz1 hg3.size, hcol'.out⟩
              · exact hg3.block bc (hrg1.map.lt) (fun e => by have h1 := (ownsRow_ge hrow1 e.symm).1; have h2 := (hH.out.lt _ hH.out.own.2.1).2; omega)
              · exact hg3.block w.heap.size hrg1.rlt (fun e => by have h1 := (ownsRow_ge hrow1 e.symm).1; omega)
            case measure =>
              have e1 : w3.rangeLeft bc w.heap.size = w1.rangeLeft bc w.heap.size := by
                have h1 := hg3.block bc (hrg1.map.lt) (fun e => by have h1 := (ownsRow_ge hrow1 e.symm).1; have h2 := (hH.out.lt _ hH.out.own.2.1).2; omega)
                have h2 := hg3.block w.heap.size hrg1.rlt (fun e => by have h1 := (ownsRow_ge hrow1 e.symm).1; omega)
                unfold World.rangeLeft
                rw [h1, h2]
                rfl
              first | exact hlt | (rw [e1]; exact hlt)
          · have k2 : decide (s.wait ≤ wrap64 (now - c.since)) = false := decide_eq_false hr
            have hcol' := Lib.hid (coll_skip hcol (i := c.id) (fun ⟨d, h1, h2, h3⟩ => by
              have := one_of hH.out.inv (List.mem_append_right _ h1) (List.mem_append_right _ hcf) h2
              subst this
              rw [old, k1, k2] at h3; cases h3))
            replace hcol := Lib.hid hcol
            go_upto_region 6 with fail
            go_quiet (fail)
            go_wp2
            go_roundg (w1.rangeLeft bc w.heap.size)
            case rel => exact ⟨_, L, hrow1, rfl, hrg1.keep rfl rfl, hb1.trans ⟨rfl, rfl, rfl, Nat.le_refl _, fun _ _ => rfl⟩, hsz1, hcol'.out⟩
            case measure => exact hlt
        · have k1 : decide (c.since ≤ now) = false := decide_eq_false hq
          have hcol' := Lib.hid (coll_skip hcol (i := c.id) (fun ⟨d, h1, h2, h3⟩ => by
            have := one_of hH.out.inv (List.mem_append_right _ h1) (List.mem_append_right _ hcf) h2
            subst this
            rw [old, k1] at h3; cases h3))
          replace hcol := Lib.hid hcol
          go_upto_region 6 with fail
          go_quiet (fail)
          go_wp2
          go_roundg (w1.rangeLeft bc w.heap.size)
          case rel => exact ⟨_, L, hrow1, rfl, hrg1.keep rfl rfl, hb1.trans ⟨rfl, rfl, rfl, Nat.le_refl _, fun _ _ => rfl⟩, hsz1, hcol'.out⟩
          case measure => exact hlt
end Go.Proofs.Ytpebcamnmeppaaa
