/- Rows of resources sorted by the library. -/
import Derived.Test.YtjepgpocmnijiaaSw
import Derived.Test.YtjepgpocmnijiaaShelg
namespace Go.Proofs.Ytjepgpocmnijiaa
open Go.RowKit Go.Mp Go.Ck Go.Sort Go.Lib
set_option linter.unusedVariables false
set_option maxRecDepth 100000
set_option maxHeartbeats 4000000
/-! ### a row that is put anew -/
theorem flat_arr {α : Type} [Inhabited α] {enc : α → List Value} {k : Nat} (hk : ∀ x, (enc x).length = k) (h0 : 0 < k) (L : List α) : flatK enc k L.toArray = (L.flatMap enc).toArray := by
  have hs : (L.flatMap enc).length = L.length * k := Rd.flat_len hk L
  apply Array.ext
  · simp [hs]
  · intro t h1 h2
    have ht : t < L.length * k := by simpa using h1
    have hd : t / k < L.length := (Nat.div_lt_iff_lt_mul h0).2 ht
    have hx : L[t / k]? = some L[t / k] := List.getElem?_eq_getElem hd
    have hm : t % k < k := Nat.mod_lt _ h0
    have e := Rd.flat_at hk hx (t % k) hm
    have e2 : t / k * k + t % k = t := by rw [Nat.mul_comm]; exact Nat.div_add_mod t k
    rw [e2] at e
    have e3 := get_flatK enc k L.toArray t (by simpa using ht)
    have e4 : (flatK enc k L.toArray)[t] = (flatK enc k L.toArray)[t]! := by rw [getElem!_pos (flatK enc k L.toArray) t h1]
    rw [e4, e3]
    have e5 : (L.toArray)[t / k]! = L[t / k] := by simp [hd]
    rw [e5]
    have h3 : t < (L.flatMap enc).length := by rw [hs]; exact ht
    have e6 : (L.flatMap enc)[t]? = some (L.flatMap enc)[t] := List.getElem?_eq_getElem h3
    rw [e6] at e
    have e7 : (enc L[t / k])[t % k]? = some (L.flatMap enc)[t] := e.symm
    rw [List.getElem!_eq_getElem?_getD, e7]
    simp
theorem heap_put {w : World} {g n : Nat} {os : Array Obj} {cur : Array Value} {e : TypeId} {fr : Nat × Nat} (F : Array Value) (hb : w.heap[g]? = some (.cells cur e fr)) :
    (grow (putRow id (Sort.ahead w n) g 0 F) os).heap[g]? = some (.cells (putCells id 0 F cur) e fr) := by
  have hg : g < w.heap.size := (Array.getElem?_eq_some_iff.1 hb).1
  rw [heap_grow_old _ _ (by simpa using hg)]
  simp [putRow, mapBlock, Sort.ahead, Array.getElem?_modify, hb, onCells]
theorem tch_put {w : World} {g n : Nat} {os : Array Obj} (F : Array Value) : Tch (fun q => q = g) w (grow (putRow id (Sort.ahead w n) g 0 F) os) := by
  refine ⟨rfl, rfl, rfl, by simp, fun k hk hne => ?_⟩
  rw [heap_grow_old _ _ (by simpa using hk)]
  have : g ≠ k := fun e => hne e.symm
  simp [putRow, mapBlock, Sort.ahead, Array.getElem?_modify, this]
theorem take_put (cur F : Array Value) (h : F.size ≤ cur.size) : (putCells id 0 F cur).toList.take F.size = F.toList := by
  apply List.ext_getElem?
  intro j
  by_cases hj : j < F.size
  · rw [List.getElem?_take_of_lt hj, Array.getElem?_toList]
    simp [putCells, hj, show j < cur.size by omega]
  · rw [List.getElem?_take_eq_none (by omega), List.getElem?_eq_none (by simp; omega)]
theorem holds_flat {w : World} {g : Nat} {cur : Array Value} {e : TypeId} {F : Array Value} (hb : w.heap[g]? = some (.cells cur e (0, 0))) (ht : cur.toList.take F.size = F.toList) : Holds id w g 0 F := by
  intro j hj
  refine ⟨?_, by simp [World.frozen?, hb]⟩
  have h1 : (cur.toList.take F.size)[j]? = F.toList[j]? := by rw [ht]
  rw [List.getElem?_take_of_lt hj] at h1
  simp only [World.cell?, hb, Nat.zero_add]
  simp only [Option.isSome_none, Bool.false_eq_true, if_false]
  rw [← Array.getElem?_toList, h1]
  simp [hj]
theorem own_put {w : World} {base g cap n k : Nat} {e : TypeId} {os : Array Obj} {cur : Array Value} {N : Nat} {F : Array Value} (hF : F.size = N * k) (hbase : base ≤ g) (hb : w.heap[g]? = some (.cells cur e (0, 0)))
    (h1 : N ≤ cap) (h2 : cap ≤ maxLen) (h3 : cur.size = cap * k) :
    (grow (putRow id (Sort.ahead w n) g 0 F) os).ownsRow base e k (.slice (some ⟨g, 0, none⟩) N cap) N F.toList :=
  ⟨by simp [hF], .inr ⟨g, cap, _, rfl, hbase, heap_put _ hb, h1, h2, by simp [putCells, h3], by rw [← hF]; exact take_put cur F (by rw [hF, h3]; exact Nat.mul_le_mul_right k h1)⟩⟩
theorem perm_list {α : Type} [Inhabited α] {d d' : Array α} (h : PermIn 0 d.size d d') : d'.toList.Perm d.toList := by
  obtain ⟨h1, _, h3⟩ := h
  rw [← h1] at h3
  have e1 : d'.extract 0 d'.size = d' := Array.extract_size
  rw [e1, h1] at h3
  have e2 : d.extract 0 d.size = d := Array.extract_size
  rw [e2] at h3
  exact h3
theorem sorted_list {α : Type} [Inhabited α] {lt : α → α → Bool} {d : Array α} (h : SortedIn lt 0 d.size d) : d.toList.Pairwise fun a b => lt b a = false := by
  rw [List.pairwise_iff_getElem]
  intro i j hi hj hij
  have hi' : i < d.size := by simpa using hi
  have hj' : j < d.size := by simpa using hj
  have := h i j (Nat.zero_le _) hij hj'
  rw [getElem!_pos d i hi', getElem!_pos d j hj'] at this
  simpa using this
/-! ### the comparison -/
theorem of61g (a : Res) (ea ta ra : Value) (w : World) : Calls Try.prog 61 #[.agg #[.int .i64 a.kind, .string a.name, ea, ta, .string a.host, ra, .string a.route, .bool a.del]] w
    fun e w' => e = .returned (.agg #[.int .i64 a.kind, .string a.name]) ∧ ∃ q os', w' = grow (w.drewN q) os' := by
  go_enter Try.func61, Try.ntmps61
  go_wp2
  exact bodyPost_ret (v := .agg #[.int .i64 a.kind, .string a.name]) (by simp [results, Try.results61, go_sem]) rfl ⟨rfl, 0, _, by rw [alloc_eq_grow, alloc_eq_grow, grow_grow]; rfl⟩
theorem ord114g (k1 k2 : Int) (n1 n2 : ByteArray) (w : World) : Calls Try.prog 114 #[.agg #[.int .i64 k1, .string n1], .agg #[.int .i64 k2, .string n2]] w fun e w' => e = .returned (.int .i64 (ordI (k1, n1) (k2, n2))) ∧ ∃ q os', w' = grow (w.drewN q) os' := by
  have hc := fun w => Try.cmp_Compare_int k1 k2 w
  have hs := fun w => Try.strings_Compare n1 n2 w
  unfold ordI
  dsimp only
  generalize Lib.compareInt k1 k2 = c at *
  generalize Lib.compareBytes n1.data.toList n2.data.toList = d at *
  by_cases h : c = 0
  · subst h
    replace hc := Lib.hid hc
    replace hs := Lib.hid hs
    go_enter Try.func114, Try.ntmps114
    go_wp2_with (first | (go_at_call 111; (with_reducible refine (hc.out _).mono ?_); rintro e w1 ⟨rfl, rfl⟩) | (go_at_call 143; (with_reducible refine (hs.out _).mono ?_); rintro e w1 ⟨rfl, rfl⟩) | fail)
    go_ret
    exact ⟨rfl, 0, _, by rw [alloc_eq_grow, alloc_eq_grow, grow_grow]; rfl⟩
  · have h1 : (c == 0) = false := beq_eq_false_iff_ne.2 h
    have h2 : (c != 0) = true := bne_iff_ne.2 h
    replace hc := Lib.hid hc
    go_enter Try.func114, Try.ntmps114
    go_wp2_with (first | (go_at_call 111; (with_reducible refine (hc.out _).mono ?_); rintro e w1 ⟨rfl, rfl⟩) | fail)
    go_ret
    exact ⟨by simp, 0, _, by rw [alloc_eq_grow, alloc_eq_grow, grow_grow]; rfl⟩
def cfR (x y : Rw) : Int := ordI (rk x.r) (rk y.r)
theorem cmp123 (x y : Rw) (W : World) : Calls Try.prog 123 #[.agg x.cells.toArray, .agg y.cells.toArray] W fun e w' => e = .returned (.int .i64 (cfR x y)) ∧ ∃ q os', w' = grow (W.drewN q) os' := by
  obtain ⟨a, ao, ac, at', atc, ar, arc⟩ := x
  obtain ⟨b, bo, bc, bt, btc, br, brc⟩ := y
  have hcf : cfR ⟨a, ao, ac, at', atc, ar, arc⟩ ⟨b, bo, bc, bt, btc, br, brc⟩ = ordI (a.kind, a.name) (b.kind, b.name) := rfl
  rw [hcf]
  have h1 := of61g a (.slice ao a.eps.length ac) (.slice at' a.tgts.length atc) (.slice ar a.rules.length arc)
  have h2 := of61g b (.slice bo b.eps.length bc) (.slice bt b.tgts.length btc) (.slice br b.rules.length brc)
  have h3 := ord114g a.kind b.kind a.name b.name
  generalize ordI (a.kind, a.name) (b.kind, b.name) = o at h3 ⊢
  obtain ⟨w2, hw2⟩ : ∃ w2, w2 = (W.alloc (.cells #[.int .i64 a.kind, .string a.name, .slice ao a.eps.length ac, .slice at' a.tgts.length atc, .string a.host, .slice ar a.rules.length arc, .string a.route, .bool a.del] 52)).alloc (.cells #[.int .i64 b.kind, .string b.name, .slice bo b.eps.length bc, .slice bt b.tgts.length btc, .string b.host, .slice br b.rules.length brc, .string b.route, .bool b.del] 52) := ⟨_, rfl⟩
  obtain ⟨p, hp⟩ : ∃ p, p = W.heap.size := ⟨_, rfl⟩
  obtain ⟨q, hq⟩ : ∃ q, q = p + 1 := ⟨_, rfl⟩
  have hx : w2.heap[p]? = some (.cells #[.int .i64 a.kind, .string a.name, .slice ao a.eps.length ac, .slice at' a.tgts.length atc, .string a.host, .slice ar a.rules.length arc, .string a.route, .bool a.del] 52 (0, 0)) := by
    rw [hw2, Below.heap_alloc _ _ p (by simp; omega), hp]; exact heap_alloc_new W _
  have hy : w2.heap[q]? = some (.cells #[.int .i64 b.kind, .string b.name, .slice bo b.eps.length bc, .slice bt b.tgts.length btc, .string b.host, .slice br b.rules.length brc, .string b.route, .bool b.del] 52 (0, 0)) := by
    have : q = (W.alloc (.cells #[.int .i64 a.kind, .string a.name, .slice ao a.eps.length ac, .slice at' a.tgts.length atc, .string a.host, .slice ar a.rules.length arc, .string a.route, .bool a.del] 52)).heap.size := by simp; omega
    rw [hw2, this]; exact heap_alloc_new _ _
  have hpl := (Array.getElem?_eq_some_iff.1 hx).1
  have hql := (Array.getElem?_eq_some_iff.1 hy).1
  have a0 : ∀ n os, (grow (w2.drewN n) os).cell? ⟨p, 0, none⟩ = _ := cell_grown hpl (box_at hx rfl)
  have a1 : ∀ n os, (grow (w2.drewN n) os).cell? ⟨p, 1, none⟩ = _ := cell_grown hpl (box_at hx rfl)
  have a2 : ∀ n os, (grow (w2.drewN n) os).cell? ⟨p, 2, none⟩ = _ := cell_grown hpl (box_at hx rfl)
  have a3 : ∀ n os, (grow (w2.drewN n) os).cell? ⟨p, 3, none⟩ = _ := cell_grown hpl (box_at hx rfl)
  have a4 : ∀ n os, (grow (w2.drewN n) os).cell? ⟨p, 4, none⟩ = _ := cell_grown hpl (box_at hx rfl)
  have a5 : ∀ n os, (grow (w2.drewN n) os).cell? ⟨p, 5, none⟩ = _ := cell_grown hpl (box_at hx rfl)
  have a6 : ∀ n os, (grow (w2.drewN n) os).cell? ⟨p, 6, none⟩ = _ := cell_grown hpl (box_at hx rfl)
  have a7 : ∀ n os, (grow (w2.drewN n) os).cell? ⟨p, 7, none⟩ = _ := cell_grown hpl (box_at hx rfl)
  have b0 : ∀ n os, (grow (w2.drewN n) os).cell? ⟨q, 0, none⟩ = _ := cell_grown hql (box_at hy rfl)
  have b1 : ∀ n os, (grow (w2.drewN n) os).cell? ⟨q, 1, none⟩ = _ := cell_grown hql (box_at hy rfl)
  have b2 : ∀ n os, (grow (w2.drewN n) os).cell? ⟨q, 2, none⟩ = _ := cell_grown hql (box_at hy rfl)
  have b3 : ∀ n os, (grow (w2.drewN n) os).cell? ⟨q, 3, none⟩ = _ := cell_grown hql (box_at hy rfl)
  have b4 : ∀ n os, (grow (w2.drewN n) os).cell? ⟨q, 4, none⟩ = _ := cell_grown hql (box_at hy rfl)
  have b5 : ∀ n os, (grow (w2.drewN n) os).cell? ⟨q, 5, none⟩ = _ := cell_grown hql (box_at hy rfl)
  have b6 : ∀ n os, (grow (w2.drewN n) os).cell? ⟨q, 6, none⟩ = _ := cell_grown hql (box_at hy rfl)
  have b7 : ∀ n os, (grow (w2.drewN n) os).cell? ⟨q, 7, none⟩ = _ := cell_grown hql (box_at hy rfl)
  have mixed : Try.prog.follows .mixedOrders = true := by kernel_rfl
  have hfin : Hid (∀ n os, ∃ k os', grow (w2.drewN n) os = grow (W.drewN k) os') := Lib.hid (fun n os => ⟨n, _, by rw [hw2, alloc_eq_grow, alloc_eq_grow, grow_grow]; show grow (grow (W.drewN n) _) os = _; rw [grow_grow]⟩)
  replace h1 := Lib.hid h1
  replace h2 := Lib.hid h2
  replace h3 := Lib.hid h3
  replace hx := Lib.hid hx
  replace hy := Lib.hid hy
  replace hpl := Lib.hid hpl
  replace hql := Lib.hid hql
  replace hw2 := Lib.hid hw2
  replace hp := Lib.hid hp
  replace hq := Lib.hid hq
  replace hcf := Lib.hid hcf
  show Calls Try.prog 123 #[.agg #[.int .i64 a.kind, .string a.name, .slice ao a.eps.length ac, .slice at' a.tgts.length atc, .string a.host, .slice ar a.rules.length arc, .string a.route, .bool a.del], .agg #[.int .i64 b.kind, .string b.name, .slice bo b.eps.length bc, .slice bt b.tgts.length btc, .string b.host, .slice br b.rules.length brc, .string b.route, .bool b.del]] W _
  go_enter Try.func123, Try.ntmps123
  go_upto_region 1 with fail
  rw [← hp.out, ← hq.out, ← hw2.out]
  go_quiet_grown (first
    | (go_at_call 61; first | with_reducible exact Calls.grown_of (h1.out _) | with_reducible exact Calls.grown_of (h2.out _))
    | (go_at_call 114; with_reducible exact Calls.grown_of (h3.out _))
    | fail)
  go_wp2
  go_ret
  obtain ⟨k, os', e⟩ := hfin.out nq osq
  exact ⟨rfl, k, os', e⟩
end Go.Proofs.Ytjepgpocmnijiaa
