/- The library's sort at a row of resources of one's own; copies of lists. -/
import Derived.Shelf.SlSortCmp.NoneTotal
import Derived.Ground.SlsfProg
import Derived.Test.YtjepgpocmnijiaaProg
import Derived.Test.YtjepgpocmnijiaaZb21
section
/-
  DERIVED: THE SHELF's CONTRACTS AT THIS DUMP, IN PLAIN WORDS (tools/lay-plain.mjs out of 'TryShelg.lean', which tools/lay-shelf.mjs wrote): THE SAME DECLARATIONS UNDER THE SAME NAMES: 'import', 'namespace', 'open', 'def', 'theorem' AND NOTHING ELSE: no command of the shelf's: FOR A HAND-IN. Each laying: the table of numbers ('.._ren') and one theorem, a field a fact of the dump's own or the kernel's comparison; each contract: ONE APPLICATION.
-/
namespace Go.Proofs
open Go.Shelf
def Try.sortRes_ren : Go.Shelf.Ren := ⟨fun | 6 => 122 | 15 => 150 | 14 => 149 | 28 => 169 | 29 => 170 | 20 => 161 | 21 => 162 | 22 => 163 | 23 => 164 | 24 => 165 | 25 => 166 | 26 => 167 | 27 => 168 | 46 => 174 | 47 => 175 | 48 => 176 | 49 => 177 | 50 => 178 | 57 => 180 | n => n, fun | 22 => 22 | 24 => 52 | 25 => 170 | 3 => 3 | 39 => 187 | 0 => 0 | 53 => 202 | 55 => 178 | 4 => 4 | 46 => 196 | 45 => 195 | 50 => 63 | 5 => 5 | 9 => 9 | 66 => 204 | 70 => 208 | 76 => 210 | 77 => 211 | n => n, fun | n => n⟩
theorem Try.sortRes : Go.Proofs.SlLaysF0.n6 Try.prog Try.sortRes_ren := {
  mixed := by kernel_rfl
  f6 := ⟨Try.f122.name, by decide, Try.func122.trans (congrArg some (by kernel_rfl))⟩
  f14 := ⟨Try.f149.name, by decide, Try.func149.trans (congrArg some (by kernel_rfl))⟩
  f15 := Try.func150.trans (congrArg some (by kernel_rfl))
  f20 := ⟨Try.f161.name, by decide, Try.func161.trans (congrArg some (by kernel_rfl))⟩
  f21 := ⟨Try.f162.name, by decide, Try.func162.trans (congrArg some (by kernel_rfl))⟩
  f22 := ⟨Try.f163.name, by decide, Try.func163.trans (congrArg some (by kernel_rfl))⟩
  f23 := ⟨Try.f164.name, by decide, Try.func164.trans (congrArg some (by kernel_rfl))⟩
  f24 := ⟨Try.f165.name, by decide, Try.func165.trans (congrArg some (by kernel_rfl))⟩
  f25 := ⟨Try.f166.name, by decide, Try.func166.trans (congrArg some (by kernel_rfl))⟩
  f26 := ⟨Try.f167.name, by decide, Try.func167.trans (congrArg some (by kernel_rfl))⟩
  f27 := ⟨Try.f168.name, by decide, Try.func168.trans (congrArg some (by kernel_rfl))⟩
  f28 := Try.func169.trans (congrArg some (by kernel_rfl))
  f29 := Try.func170.trans (congrArg some (by kernel_rfl))
  f46 := ⟨Try.f174.name, by decide, Try.func174.trans (congrArg some (by kernel_rfl))⟩
  f47 := Try.func175.trans (congrArg some (by kernel_rfl))
  f48 := Try.func176.trans (congrArg some (by kernel_rfl))
  f49 := ⟨Try.f177.name, by decide, Try.func177.trans (congrArg some (by kernel_rfl))⟩
  f50 := ⟨Try.f178.name, by decide, Try.func178.trans (congrArg some (by kernel_rfl))⟩
  f57 := ⟨Try.f180.name, by decide, Try.func180.trans (congrArg some (by kernel_rfl))⟩
  t0 := Try.underlying0
  a0 := Try.isAgg0
  z0 := Try.sizeOf0
  v0 := Try.zeroValue0
  t3 := Try.underlying3
  a3 := Try.isAgg3
  z3 := Try.sizeOf3
  v3 := Try.zeroValue3
  t4 := Try.underlying4
  a4 := Try.isAgg4
  z4 := Try.sizeOf4
  v4 := Try.zeroValue4
  t5 := Try.underlying5
  a5 := Try.isAgg5
  z5 := Try.sizeOf5
  v5 := Try.zeroValue5
  t9 := Try.underlying9
  a9 := Try.isAgg9
  z9 := Try.sizeOf9
  v9 := Try.zeroValue9
  t22 := Try.underlying22
  a22 := Try.isAgg22
  z22 := Try.sizeOf22
  v22 := Try.zeroValue22
  t25 := Try.underlying170
  a25 := Try.isAgg170
  z25 := Try.sizeOf170
  v25 := Try.zeroValue170
  t39 := Try.underlying187
  a39 := Try.isAgg187
  z39 := Try.sizeOf187
  v39 := Try.zeroValue187
  t45 := Try.underlying195
  a45 := Try.isAgg195
  z45 := Try.sizeOf195
  v45 := Try.zeroValue195
  t46 := Try.underlying196
  a46 := Try.isAgg196
  z46 := Try.sizeOf196
  v46 := Try.zeroValue196
  t50 := Try.underlying63
  a50 := Try.isAgg63
  z50 := Try.sizeOf63
  v50 := Try.zeroValue63
  t53 := Try.underlying202
  a53 := Try.isAgg202
  z53 := Try.sizeOf202
  v53 := Try.zeroValue202
  t55 := Try.underlying178
  a55 := Try.isAgg178
  z55 := Try.sizeOf178
  v55 := Try.zeroValue178
  t66 := Try.underlying204
  a66 := Try.isAgg204
  z66 := Try.sizeOf204
  v66 := Try.zeroValue204
  t70 := Try.underlying208
  a70 := Try.isAgg208
  z70 := Try.sizeOf208
  v70 := Try.zeroValue208
  t76 := Try.underlying210
  a76 := Try.isAgg210
  z76 := Try.sizeOf210
  v76 := Try.zeroValue210
  t77 := Try.underlying211
  a77 := Try.isAgg211
  z77 := Try.sizeOf211
  v77 := Try.zeroValue211 }
end Go.Proofs
end

section
/- Rows of resources sorted by the library. -/
namespace Go.Proofs.Ytjepgpocmnijiaa
open Go.RowKit Go.Mp Go.Ck Go.Sort Go.Lib
set_option linter.unusedVariables false
set_option maxRecDepth 100000
set_option maxHeartbeats 4000000
/-! ### a row that is put anew -/
theorem flat_arr {α : Type} [Inhabited α] {enc : α → List Value} {k : Nat} (hk : ∀ x, (enc x).length = k) (h0 : 0 < k) (L : List α) : flatK enc k L.toArray = (L.flatMap enc).toArray := by
  have hs : (L.flatMap enc).length = L.length * k := Rd.flat_len hk L
  apply Array.ext
  · simp [hs]
  · intro t h1 h2
    have ht : t < L.length * k := by simpa using h1
    have hd : t / k < L.length := (Nat.div_lt_iff_lt_mul h0).2 ht
    have hx : L[t / k]? = some L[t / k] := List.getElem?_eq_getElem hd
    have hm : t % k < k := Nat.mod_lt _ h0
    have e := Rd.flat_at hk hx (t % k) hm
    have e2 : t / k * k + t % k = t := by rw [Nat.mul_comm]; exact Nat.div_add_mod t k
    rw [e2] at e
    have e3 := get_flatK enc k L.toArray t (by simpa using ht)
    have e4 : (flatK enc k L.toArray)[t] = (flatK enc k L.toArray)[t]! := by rw [getElem!_pos (flatK enc k L.toArray) t h1]
    rw [e4, e3]
    have e5 : (L.toArray)[t / k]! = L[t / k] := by simp [hd]
    rw [e5]
    have h3 : t < (L.flatMap enc).length := by rw [hs]; exact ht
    have e6 : (L.flatMap enc)[t]? = some (L.flatMap enc)[t] := List.getElem?_eq_getElem h3
    rw [e6] at e
    have e7 : (enc L[t / k])[t % k]? = some (L.flatMap enc)[t] := e.symm
    rw [List.getElem!_eq_getElem?_getD, e7]
    simp
theorem heap_put {w : World} {g n : Nat} {os : Array Obj} {cur : Array Value} {e : TypeId} {fr : Nat × Nat} (F : Array Value) (hb : w.heap[g]? = some (.cells cur e fr)) :
    (grow (putRow id (Sort.ahead w n) g 0 F) os).heap[g]? = some (.cells (putCells id 0 F cur) e fr) := by
  have hg : g < w.heap.size := (Array.getElem?_eq_some_iff.1 hb).1
  rw [heap_grow_old _ _ (by simpa using hg)]
  simp [putRow, mapBlock, Sort.ahead, Array.getElem?_modify, hb, onCells]
theorem tch_put {w : World} {g n : Nat} {os : Array Obj} (F : Array Value) : Tch (fun q => q = g) w (grow (putRow id (Sort.ahead w n) g 0 F) os) := by
  refine ⟨rfl, rfl, rfl, by simp, fun k hk hne => ?_⟩
  rw [heap_grow_old _ _ (by simpa using hk)]
  have : g ≠ k := fun e => hne e.symm
  simp [putRow, mapBlock, Sort.ahead, Array.getElem?_modify, this]
theorem take_put (cur F : Array Value) (h : F.size ≤ cur.size) : (putCells id 0 F cur).toList.take F.size = F.toList := by
  apply List.ext_getElem?
  intro j
  by_cases hj : j < F.size
  · rw [List.getElem?_take_of_lt hj, Array.getElem?_toList]
    simp [putCells, hj, show j < cur.size by omega]
  · rw [List.getElem?_take_eq_none (by omega), List.getElem?_eq_none (by simp; omega)]
theorem holds_flat {w : World} {g : Nat} {cur : Array Value} {e : TypeId} {F : Array Value} (hb : w.heap[g]? = some (.cells cur e (0, 0))) (ht : cur.toList.take F.size = F.toList) : Holds id w g 0 F := by
  intro j hj
  refine ⟨?_, by simp [World.frozen?, hb]⟩
  have h1 : (cur.toList.take F.size)[j]? = F.toList[j]? := by rw [ht]
  rw [List.getElem?_take_of_lt hj] at h1
  simp only [World.cell?, hb, Nat.zero_add]
  simp only [Option.isSome_none, Bool.false_eq_true, if_false]
  rw [← Array.getElem?_toList, h1]
  simp [hj]
theorem own_put {w : World} {base g cap n k : Nat} {e : TypeId} {os : Array Obj} {cur : Array Value} {N : Nat} {F : Array Value} (hF : F.size = N * k) (hbase : base ≤ g) (hb : w.heap[g]? = some (.cells cur e (0, 0)))
    (h1 : N ≤ cap) (h2 : cap ≤ maxLen) (h3 : cur.size = cap * k) :
    (grow (putRow id (Sort.ahead w n) g 0 F) os).ownsRow base e k (.slice (some ⟨g, 0, none⟩) N cap) N F.toList :=
  ⟨by simp [hF], .inr ⟨g, cap, _, rfl, hbase, heap_put _ hb, h1, h2, by simp [putCells, h3], by rw [← hF]; exact take_put cur F (by rw [hF, h3]; exact Nat.mul_le_mul_right k h1)⟩⟩
theorem perm_list {α : Type} [Inhabited α] {d d' : Array α} (h : PermIn 0 d.size d d') : d'.toList.Perm d.toList := by
  obtain ⟨h1, _, h3⟩ := h
  rw [← h1] at h3
  have e1 : d'.extract 0 d'.size = d' := Array.extract_size
  rw [e1, h1] at h3
  have e2 : d.extract 0 d.size = d := Array.extract_size
  rw [e2] at h3
  exact h3
theorem sorted_list {α : Type} [Inhabited α] {lt : α → α → Bool} {d : Array α} (h : SortedIn lt 0 d.size d) : d.toList.Pairwise fun a b => lt b a = false := by
  rw [List.pairwise_iff_getElem]
  intro i j hi hj hij
  have hi' : i < d.size := by simpa using hi
  have hj' : j < d.size := by simpa using hj
  have := h i j (Nat.zero_le _) hij hj'
  rw [getElem!_pos d i hi', getElem!_pos d j hj'] at this
  simpa using this
/-! ### the comparison -/
theorem of61g (a : Res) (ea ta ra : Value) (w : World) : Calls Try.prog 61 #[.agg #[.int .i64 a.kind, .string a.name, ea, ta, .string a.host, ra, .string a.route, .bool a.del]] w
    fun e w' => e = .returned (.agg #[.int .i64 a.kind, .string a.name]) ∧ ∃ q os', w' = grow (w.drewN q) os' := by
  go_enter Try.func61, Try.ntmps61
  go_wp2
  exact bodyPost_ret (v := .agg #[.int .i64 a.kind, .string a.name]) (by simp [results, Try.results61, go_sem]) rfl ⟨rfl, 0, _, by rw [alloc_eq_grow, alloc_eq_grow, grow_grow]; rfl⟩
theorem ord114g (k1 k2 : Int) (n1 n2 : ByteArray) (w : World) : Calls Try.prog 114 #[.agg #[.int .i64 k1, .string n1], .agg #[.int .i64 k2, .string n2]] w fun e w' => e = .returned (.int .i64 (ordI (k1, n1) (k2, n2))) ∧ ∃ q os', w' = grow (w.drewN q) os' := by
  have hc := fun w => Try.cmp_Compare_int k1 k2 w
  have hs := fun w => Try.strings_Compare n1 n2 w
  unfold ordI
  dsimp only
  generalize Lib.compareInt k1 k2 = c at *
  generalize Lib.compareBytes n1.data.toList n2.data.toList = d at *
  by_cases h : c = 0
  · subst h
    replace hc := Lib.hid hc
    replace hs := Lib.hid hs
    go_enter Try.func114, Try.ntmps114
    go_wp2_with (first | (go_at_call 111; (with_reducible refine (hc.out _).mono ?_); rintro e w1 ⟨rfl, rfl⟩) | (go_at_call 143; (with_reducible refine (hs.out _).mono ?_); rintro e w1 ⟨rfl, rfl⟩) | fail)
    go_ret
    exact ⟨rfl, 0, _, by rw [alloc_eq_grow, alloc_eq_grow, grow_grow]; rfl⟩
  · have h1 : (c == 0) = false := beq_eq_false_iff_ne.2 h
    have h2 : (c != 0) = true := bne_iff_ne.2 h
    replace hc := Lib.hid hc
    go_enter Try.func114, Try.ntmps114
    go_wp2_with (first | (go_at_call 111; (with_reducible refine (hc.out _).mono ?_); rintro e w1 ⟨rfl, rfl⟩) | fail)
    go_ret
    exact ⟨by simp, 0, _, by rw [alloc_eq_grow, alloc_eq_grow, grow_grow]; rfl⟩
def cfR (x y : Rw) : Int := ordI (rk x.r) (rk y.r)
theorem cmp123 (x y : Rw) (W : World) : Calls Try.prog 123 #[.agg x.cells.toArray, .agg y.cells.toArray] W fun e w' => e = .returned (.int .i64 (cfR x y)) ∧ ∃ q os', w' = grow (W.drewN q) os' := by
  obtain ⟨a, ao, ac, at', atc, ar, arc⟩ := x
  obtain ⟨b, bo, bc, bt, btc, br, brc⟩ := y
  have hcf : cfR ⟨a, ao, ac, at', atc, ar, arc⟩ ⟨b, bo, bc, bt, btc, br, brc⟩ = ordI (a.kind, a.name) (b.kind, b.name) := rfl
  rw [hcf]
  have h1 := of61g a (.slice ao a.eps.length ac) (.slice at' a.tgts.length atc) (.slice ar a.rules.length arc)
  have h2 := of61g b (.slice bo b.eps.length bc) (.slice bt b.tgts.length btc) (.slice br b.rules.length brc)
  have h3 := ord114g a.kind b.kind a.name b.name
  generalize ordI (a.kind, a.name) (b.kind, b.name) = o at h3 ⊢
  obtain ⟨w2, hw2⟩ : ∃ w2, w2 = (W.alloc (.cells #[.int .i64 a.kind, .string a.name, .slice ao a.eps.length ac, .slice at' a.tgts.length atc, .string a.host, .slice ar a.rules.length arc, .string a.route, .bool a.del] 52)).alloc (.cells #[.int .i64 b.kind, .string b.name, .slice bo b.eps.length bc, .slice bt b.tgts.length btc, .string b.host, .slice br b.rules.length brc, .string b.route, .bool b.del] 52) := ⟨_, rfl⟩
  obtain ⟨p, hp⟩ : ∃ p, p = W.heap.size := ⟨_, rfl⟩
  obtain ⟨q, hq⟩ : ∃ q, q = p + 1 := ⟨_, rfl⟩
  have hx : w2.heap[p]? = some (.cells #[.int .i64 a.kind, .string a.name, .slice ao a.eps.length ac, .slice at' a.tgts.length atc, .string a.host, .slice ar a.rules.length arc, .string a.route, .bool a.del] 52 (0, 0)) := by
    rw [hw2, Below.heap_alloc _ _ p (by simp; omega), hp]; exact heap_alloc_new W _
  have hy : w2.heap[q]? = some (.cells #[.int .i64 b.kind, .string b.name, .slice bo b.eps.length bc, .slice bt b.tgts.length btc, .string b.host, .slice br b.rules.length brc, .string b.route, .bool b.del] 52 (0, 0)) := by
    have : q = (W.alloc (.cells #[.int .i64 a.kind, .string a.name, .slice ao a.eps.length ac, .slice at' a.tgts.length atc, .string a.host, .slice ar a.rules.length arc, .string a.route, .bool a.del] 52)).heap.size := by simp; omega
    rw [hw2, this]; exact heap_alloc_new _ _
  have hpl := (Array.getElem?_eq_some_iff.1 hx).1
  have hql := (Array.getElem?_eq_some_iff.1 hy).1
  have a0 : ∀ n os, (grow (w2.drewN n) os).cell? ⟨p, 0, none⟩ = _ := cell_grown hpl (box_at hx rfl)
  have a1 : ∀ n os, (grow (w2.drewN n) os).cell? ⟨p, 1, none⟩ = _ := cell_grown hpl (box_at hx rfl)
  have a2 : ∀ n os, (grow (w2.drewN n) os).cell? ⟨p, 2, none⟩ = _ := cell_grown hpl (box_at hx rfl)
  have a3 : ∀ n os, (grow (w2.drewN n) os).cell? ⟨p, 3, none⟩ = _ := cell_grown hpl (box_at hx rfl)
  have a4 : ∀ n os, (grow (w2.drewN n) os).cell? ⟨p, 4, none⟩ = _ := cell_grown hpl (box_at hx rfl)
  have a5 : ∀ n os, (grow (w2.drewN n) os).cell? ⟨p, 5, none⟩ = _ := cell_grown hpl (box_at hx rfl)
  have a6 : ∀ n os, (grow (w2.drewN n) os).cell? ⟨p, 6, none⟩ = _ := cell_grown hpl (box_at hx rfl)
  have a7 : ∀ n os, (grow (w2.drewN n) os).cell? ⟨p, 7, none⟩ = _ := cell_grown hpl (box_at hx rfl)
  have b0 : ∀ n os, (grow (w2.drewN n) os).cell? ⟨q, 0, none⟩ = _ := cell_grown hql (box_at hy rfl)
  have b1 : ∀ n os, (grow (w2.drewN n) os).cell? ⟨q, 1, none⟩ = _ := cell_grown hql (box_at hy rfl)
  have b2 : ∀ n os, (grow (w2.drewN n) os).cell? ⟨q, 2, none⟩ = _ := cell_grown hql (box_at hy rfl)
  have b3 : ∀ n os, (grow (w2.drewN n) os).cell? ⟨q, 3, none⟩ = _ := cell_grown hql (box_at hy rfl)
  have b4 : ∀ n os, (grow (w2.drewN n) os).cell? ⟨q, 4, none⟩ = _ := cell_grown hql (box_at hy rfl)
  have b5 : ∀ n os, (grow (w2.drewN n) os).cell? ⟨q, 5, none⟩ = _ := cell_grown hql (box_at hy rfl)
  have b6 : ∀ n os, (grow (w2.drewN n) os).cell? ⟨q, 6, none⟩ = _ := cell_grown hql (box_at hy rfl)
  have b7 : ∀ n os, (grow (w2.drewN n) os).cell? ⟨q, 7, none⟩ = _ := cell_grown hql (box_at hy rfl)
  have mixed : Try.prog.follows .mixedOrders = true := by kernel_rfl
  have hfin : Hid (∀ n os, ∃ k os', grow (w2.drewN n) os = grow (W.drewN k) os') := Lib.hid (fun n os => ⟨n, _, by rw [hw2, alloc_eq_grow, alloc_eq_grow, grow_grow]; show grow (grow (W.drewN n) _) os = _; rw [grow_grow]⟩)
  replace h1 := Lib.hid h1
  replace h2 := Lib.hid h2
  replace h3 := Lib.hid h3
  replace hx := Lib.hid hx
  replace hy := Lib.hid hy
  replace hpl := Lib.hid hpl
  replace hql := Lib.hid hql
  replace hw2 := Lib.hid hw2
  replace hp := Lib.hid hp
  replace hq := Lib.hid hq
  replace hcf := Lib.hid hcf
  show Calls Try.prog 123 #[.agg #[.int .i64 a.kind, .string a.name, .slice ao a.eps.length ac, .slice at' a.tgts.length atc, .string a.host, .slice ar a.rules.length arc, .string a.route, .bool a.del], .agg #[.int .i64 b.kind, .string b.name, .slice bo b.eps.length bc, .slice bt b.tgts.length btc, .string b.host, .slice br b.rules.length brc, .string b.route, .bool b.del]] W _
  go_enter Try.func123, Try.ntmps123
  go_upto_region 1 with fail
  rw [← hp.out, ← hq.out, ← hw2.out]
  go_quiet_grown (first
    | (go_at_call 61; first | with_reducible exact Calls.grown_of (h1.out _) | with_reducible exact Calls.grown_of (h2.out _))
    | (go_at_call 114; with_reducible exact Calls.grown_of (h3.out _))
    | fail)
  go_wp2
  go_ret
  obtain ⟨k, os', e⟩ := hfin.out nq osq
  exact ⟨rfl, k, os', e⟩
end Go.Proofs.Ytjepgpocmnijiaa
end

section

namespace Go.Proofs.Ytjepgpocmnijiaa
open Go.RowKit Go.Mp Go.Ck Go.Sort Go.Lib
set_option linter.unusedVariables false
set_option maxRecDepth 100000
set_option maxHeartbeats 4000000
theorem lt_cf (x y : Rw) : ltOf cfR x y = lessK (rk x.r) (rk y.r) := by
  rw [← less_eq, less_ord]; rfl
theorem swoR : SWO (ltOf cfR) where
  irrefl x := by rw [lt_cf]; exact lessK_irrefl _
  trans x y z h1 h2 := by rw [lt_cf] at *; exact lessK_trans h1 h2
  ntrans x y z h1 h2 := by
    rw [lt_cf] at *
    cases h : lessK (rk x.r) (rk z.r) with
    | false => rfl
    | true =>
      rcases lessK_tri (rk x.r) (rk y.r) with e | e | e
      · rw [e, h2] at h; cases h
      · rw [e] at h1; cases h1
      · rw [lessK_trans e h] at h2; cases h2
def SortOut (w : World) (B : Nat) (v : Value) (L : List Rw) (e : Ending) (w' : World) : Prop := e = .returned (.tuple #[]) ∧ ∃ L' : List Rw, L'.Perm L ∧ L'.Pairwise (fun a b => lessK (rk b.r) (rk a.r) = false) ∧ w'.ownsRow B 52 8 v L'.length (L'.flatMap Rw.cells) ∧ Tch (fun q => v.ownBlock = some q) w w'
theorem sort122 (L : List Rw) (v : Value) (B : Nat) (w : World) (hrow : w.ownsRow B 52 8 v L.length (L.flatMap Rw.cells)) (hM : L.length ≤ 4294967296) : Calls Try.prog 122 #[v, .func (.func 123) #[] #[]] w (SortOut w B v L) := by
  rcases hrow.2 with ⟨rfl, h1⟩ | ⟨g, cap, cur, rfl, hb, hg, hnc, hcm, hcs, htk⟩
  · have : L = [] := List.length_eq_zero_iff.1 h1
    subst this
    refine (AnyF.slices_SortFunc_none Try.sortRes none 0 (.func (.func 123) #[] #[]) w).mono ?_
    rintro e w' ⟨rfl, rfl⟩
    exact ⟨rfl, [], List.Perm.refl _, List.Pairwise.nil, hrow, Tch.refl _ _⟩
  · have eg : ∀ args w, (callFunc 123 args).run Try.prog w = .ok (.enter 123 args) w := enters_of Try.func123 (by kernel_rfl) rfl
    have hfl := flat_arr (enc := Rw.cells) (k := 8) (fun _ => rfl) (by decide) L
    have hfs : (L.flatMap Rw.cells).length = L.length * 8 := Rd.flat_len (enc := Rw.cells) (k := 8) (fun _ => rfl) L
    have hH : HoldsK Rw.cells 8 w g 0 L.toArray := by
      unfold HoldsK
      rw [hfl]
      exact holds_flat hg (by simp only [List.size_toArray]; rw [hfs]; exact htk)
    have hsz : L.toArray.size < 4611686018427387904 := by simp only [List.size_toArray]; omega
    have hcon := AnyQ.slices_SortFunc Try.sortRes 8 Try.isAgg52 Try.sizeOf52 Rw.cells (fun _ => rfl) rwC.one cfR swoR 123 #[] g 0 cap L.toArray w eg (fun _ _ _ _ x y => cmp123 x y _) hH (Array.getElem?_eq_some_iff.1 hg).1 hsz
    simp only [List.size_toArray] at hcon
    refine Calls.mono hcon ?_
    rintro e w' ⟨rfl, d', n, os, hp, hs, rfl⟩
    have hp2 := perm_list (d := L.toArray) (by simpa using hp)
    have hsd : d'.size = L.length := by have := hp.1; simpa using this
    have hs2 : d'.toList.Pairwise fun a b => ltOf cfR b a = false := sorted_list (by rw [hsd]; exact hs)
    have hfl2 := flat_arr (enc := Rw.cells) (k := 8) (fun _ => rfl) (by decide) d'.toList
    rw [Array.toArray_toList] at hfl2
    have hfs2 : (d'.toList.flatMap Rw.cells).length = d'.toList.length * 8 := Rd.flat_len (enc := Rw.cells) (k := 8) (fun _ => rfl) _
    have hl : d'.toList.length = L.length := by simpa using hsd
    refine ⟨rfl, d'.toList, hp2, hs2.imp (fun {a b} h => by rw [lt_cf] at h; exact h), ?_, ?_⟩
    · show (grow (putRow id (Sort.ahead w n) g 0 (flatK Rw.cells 8 d')) os).ownsRow B 52 8 _ _ _
      rw [hfl2, hl]
      exact own_put (F := (d'.toList.flatMap Rw.cells).toArray) (N := L.length) (by simp only [List.size_toArray]; rw [hfs2, hl]) hb hg hnc hcm hcs
    · exact (tch_put (os := os) (n := n) (flatK Rw.cells 8 d')).mono (fun k hk => by rw [hk]; rfl)
/-! ### copies of lists -/
def CloneOut (w : World) (e k : Nat) (n : Nat) (xs : List Value) (e' : Ending) (w' : World) : Prop := ∃ ao c, e' = .returned (.slice ao n c) ∧ w'.ownsRow w.heap.size e k (.slice ao n c) n xs ∧ Below w.heap.size w w'
theorem clone106 (l : List ByteArray) (v : Value) (w : World) (hl : Rd.SliceOf Rd.str w v l) (hM : l.length * 16 ≤ 140737488355328) : Calls Try.prog 106 #[v] w (CloneOut w 9 1 l.length (l.flatMap Rd.strC.enc)) := by
  obtain ⟨ao, cap, rfl⟩ := slice_shape hl
  obtain ⟨ie, he, he0, he1, he2⟩ := info_parts info9
  have q22 : ∀ (w : World) (a : Option Addr) (n c n' c' : Nat), (binOp .eql 48 (.slice a n c) (.slice none n' c')).run Try.prog w = .ok (.bool a.isNone) w := fun w a n c n' c' => Lib.run_eql_slice_nil w _ _ a n c n' c' Try.underlying48
  cases ao with
  | none =>
    have h0 : l = [] := by
      obtain ⟨_, ao', cap', e, _, h2⟩ := hl
      cases e
      rcases h2 with h2 | ⟨b, off, e, _⟩
      · exact h2
      · cases e
    subst h0
    go_enter Try.func106, Try.ntmps106
    go_wp2
    go_ret
    exact ⟨none, 0, rfl, World.ownsRow_nil _ _ _ _, Below.refl _ _⟩
  | some a =>
    have hal := alloc_below w (.cells #[] 9)
    have hrow := Lib.hid (empty_row w w.heap.size (Nat.le_refl _) 9 1)
    have hsrc := Lib.hid (hl.below hal)
    have lim : 0 + l.length ≤ maxLen ∧ (0 + l.length) * 16 ≤ 140737488355328 := by unfold maxLen; omega
    replace hl := Lib.hid hl
    replace lim := Lib.hid lim
    replace he := Lib.hid he
    replace he0 := Lib.hid he0
    replace he1 := Lib.hid he1
    replace he2 := Lib.hid he2
    replace hal := Lib.hid hal
    go_enter Try.func106, Try.ntmps106
    go_wp2_with (first
      | (at_builtin; refine Rd.wp_append_src Rd.strC (by rfl) _ _ 48 (by rfl) w.heap.size 9 ie _ 16 Try.underlying48 he.out he0.out he1.out he2.out rfl _ 0 [] (by rfl) hrow.out _ l (by rfl) hsrc.out lim.out.1 lim.out.2 hal.out.size ?_; intro v3 w3 hr3 hg3 hl3; obtain ⟨po, pc, rfl⟩ := ownsRow_shape hr3; rw [Nat.zero_add, List.nil_append] at hr3; rw [Nat.zero_add]; have hB3 := Lib.hid (hal.out.grown hg3 hal.out.size (fun q hq => by cases hq; exact Nat.le_refl _)); replace hr3 := Lib.hid hr3; clear hg3 hl3)
      | fail)
    go_ret
    exact ⟨po, pc, rfl, hr3.out, hB3.out⟩
theorem clone147 (l : List Tgt) (v : Value) (w : World) (hl : Rd.SliceOf tgtE w v l) (hM : l.length * 40 ≤ 140737488355328) : Calls Try.prog 147 #[v] w (CloneOut w 57 3 l.length (l.flatMap tgtC.enc)) := by
  obtain ⟨ao, cap, rfl⟩ := slice_shape hl
  obtain ⟨ie, he, he0, he1, he2⟩ := info_parts info57
  have q22 : ∀ (w : World) (a : Option Addr) (n c n' c' : Nat), (binOp .eql 49 (.slice a n c) (.slice none n' c')).run Try.prog w = .ok (.bool a.isNone) w := fun w a n c n' c' => Lib.run_eql_slice_nil w _ _ a n c n' c' Try.underlying49
  cases ao with
  | none =>
    have h0 : l = [] := by
      obtain ⟨_, ao', cap', e, _, h2⟩ := hl
      cases e
      rcases h2 with h2 | ⟨b, off, e, _⟩
      · exact h2
      · cases e
    subst h0
    go_enter Try.func147, Try.ntmps147
    go_wp2
    go_ret
    exact ⟨none, 0, rfl, World.ownsRow_nil _ _ _ _, Below.refl _ _⟩
  | some a =>
    have hal := alloc_below w (.cells #[] 57)
    have hrow := Lib.hid (empty_row w w.heap.size (Nat.le_refl _) 57 3)
    have hsrc := Lib.hid (hl.below hal)
    have lim : 0 + l.length ≤ maxLen ∧ (0 + l.length) * 40 ≤ 140737488355328 := by unfold maxLen; omega
    replace hl := Lib.hid hl
    replace lim := Lib.hid lim
    replace he := Lib.hid he
    replace he0 := Lib.hid he0
    replace he1 := Lib.hid he1
    replace he2 := Lib.hid he2
    replace hal := Lib.hid hal
    go_enter Try.func147, Try.ntmps147
    go_wp2_with (first
      | (at_builtin; refine Rd.wp_append_src tgtC (by rfl) _ _ 49 (by rfl) w.heap.size 57 ie _ 40 Try.underlying49 he.out he0.out he1.out he2.out rfl _ 0 [] (by rfl) hrow.out _ l (by rfl) hsrc.out lim.out.1 lim.out.2 hal.out.size ?_; intro v3 w3 hr3 hg3 hl3; obtain ⟨po, pc, rfl⟩ := ownsRow_shape hr3; rw [Nat.zero_add, List.nil_append] at hr3; rw [Nat.zero_add]; have hB3 := Lib.hid (hal.out.grown hg3 hal.out.size (fun q hq => by cases hq; exact Nat.le_refl _)); replace hr3 := Lib.hid hr3; clear hg3 hl3)
      | fail)
    go_ret
    exact ⟨po, pc, rfl, hr3.out, hB3.out⟩
theorem clone148 (l : List Rul) (v : Value) (w : World) (hl : Rd.SliceOf rulE w v l) (hM : l.length * 56 ≤ 140737488355328) : Calls Try.prog 148 #[v] w (CloneOut w 101 4 l.length (l.flatMap rulC.enc)) := by
  obtain ⟨ao, cap, rfl⟩ := slice_shape hl
  obtain ⟨ie, he, he0, he1, he2⟩ := info_parts info101
  have q22 : ∀ (w : World) (a : Option Addr) (n c n' c' : Nat), (binOp .eql 50 (.slice a n c) (.slice none n' c')).run Try.prog w = .ok (.bool a.isNone) w := fun w a n c n' c' => Lib.run_eql_slice_nil w _ _ a n c n' c' Try.underlying50
  cases ao with
  | none =>
    have h0 : l = [] := by
      obtain ⟨_, ao', cap', e, _, h2⟩ := hl
      cases e
      rcases h2 with h2 | ⟨b, off, e, _⟩
      · exact h2
      · cases e
    subst h0
    go_enter Try.func148, Try.ntmps148
    go_wp2
    go_ret
    exact ⟨none, 0, rfl, World.ownsRow_nil _ _ _ _, Below.refl _ _⟩
  | some a =>
    have hal := alloc_below w (.cells #[] 101)
    have hrow := Lib.hid (empty_row w w.heap.size (Nat.le_refl _) 101 4)
    have hsrc := Lib.hid (hl.below hal)
    have lim : 0 + l.length ≤ maxLen ∧ (0 + l.length) * 56 ≤ 140737488355328 := by unfold maxLen; omega
    replace hl := Lib.hid hl
    replace lim := Lib.hid lim
    replace he := Lib.hid he
    replace he0 := Lib.hid he0
    replace he1 := Lib.hid he1
    replace he2 := Lib.hid he2
    replace hal := Lib.hid hal
    go_enter Try.func148, Try.ntmps148
    go_wp2_with (first
      | (at_builtin; refine Rd.wp_append_src rulC (by rfl) _ _ 50 (by rfl) w.heap.size 101 ie _ 56 Try.underlying50 he.out he0.out he1.out he2.out rfl _ 0 [] (by rfl) hrow.out _ l (by rfl) hsrc.out lim.out.1 lim.out.2 hal.out.size ?_; intro v3 w3 hr3 hg3 hl3; obtain ⟨po, pc, rfl⟩ := ownsRow_shape hr3; rw [Nat.zero_add, List.nil_append] at hr3; rw [Nat.zero_add]; have hB3 := Lib.hid (hal.out.grown hg3 hal.out.size (fun q hq => by cases hq; exact Nat.le_refl _)); replace hr3 := Lib.hid hr3; clear hg3 hl3)
      | fail)
    go_ret
    exact ⟨po, pc, rfl, hr3.out, hB3.out⟩
end Go.Proofs.Ytjepgpocmnijiaa
end
