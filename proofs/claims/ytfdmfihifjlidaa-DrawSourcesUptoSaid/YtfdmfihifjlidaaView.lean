/- An append onto a piece of a block: what it leaves of the block, and where the new piece lies. Of no program. -/
import Derived.Deep.AppendSrc
import Derived.Laws.AppendOwn
import Derived.Laws.IdiomCopy
import Derived.Deep.Upon
import Derived.WalkKit
namespace Go.Tp
open Go.RowKit
set_option linter.unusedVariables false

theorem heap_setCells {g : Nat} {e : TypeId} : ∀ (vs : List Value) (o : Nat) (w : World) (cur : Array Value), w.heap[g]? = some (.cells cur e (0, 0)) →
    ∃ cur', (w.setCells g o vs).heap[g]? = some (.cells cur' e (0, 0)) ∧ cur'.size = cur.size ∧ (∀ j, ¬ (o ≤ j ∧ j < o + vs.length) → cur'[j]? = cur[j]?) ∧ (∀ j, o ≤ j → j < o + vs.length → j < cur.size → cur'[j]? = vs[j - o]?)
  | [], o, w, cur, h => ⟨cur, h, rfl, fun _ _ => rfl, fun j h1 h2 _ => by simp at h2; omega⟩
  | v :: r, o, w, cur, h => by
    have h1 : (w.setCell ⟨g, o, none⟩ v).heap[g]? = some (.cells (cur.setIfInBounds o v) e (0, 0)) := by
      simp [World.setCell, Array.getElem?_modify, h]
    obtain ⟨cur', h2, h3, h4, h5⟩ := heap_setCells r (o + 1) _ _ h1
    refine ⟨cur', h2, by rw [h3]; simp, fun j hj => ?_, fun j hj1 hj2 hj3 => ?_⟩
    · rw [h4 j (by simp at hj ⊢; omega)]
      rw [Array.getElem?_setIfInBounds_ne (by simp at hj; omega)]
    · by_cases hjo : j = o
      · subst hjo
        rw [h4 j (by omega)]
        rw [Array.getElem?_setIfInBounds_self_of_lt hj3]
        simp
      · rw [h5 j (by omega) (by simp at hj2; omega) (by simpa using hj3)]
        obtain ⟨k, rfl⟩ : ∃ k, j = o + 1 + k := ⟨j - (o + 1), by omega⟩
        have e1 : o + 1 + k - (o + 1) = k := by omega
        have e2 : o + 1 + k - o = k + 1 := by omega
        rw [e1, e2]; rfl

theorem tape_setCells (g : Nat) : ∀ (vs : List Value) (o : Nat) (w : World), (w.setCells g o vs).tape = w.tape
  | [], _, _ => rfl
  | v :: r, o, w => (tape_setCells g r (o + 1) _).trans rfl
theorem size_setCells (g : Nat) : ∀ (vs : List Value) (o : Nat) (w : World), (w.setCells g o vs).heap.size = w.heap.size
  | [], _, _ => rfl
  | v :: r, o, w => (size_setCells g r (o + 1) _).trans (by simp [World.setCell])
/-- A value that may be appended to: nil, or a piece of one block of cells of one element type. -/
def viewRow (w : World) (base : Nat) (e : TypeId) (v : Value) (n : Nat) (xs : List Value) : Prop :=
  xs.length = n ∧ ((v = .slice none 0 0 ∧ n = 0) ∨
    ∃ g off cap cur, v = .slice (some ⟨g, off, none⟩) n cap ∧ base ≤ g ∧ w.heap[g]? = some (.cells cur e (0, 0)) ∧ n ≤ cap ∧ cap ≤ maxLen ∧ off + cap ≤ cur.size ∧ ∀ j u, xs[j]? = some u → cur[off + j]? = some u)
/-- The block that an append may write. -/
def blockOf : Value → Option Nat
  | .slice (some a) _ (_ + 1) => some a.block
  | _ => none
/-- What an append leaves. -/
structure Grew (w w' : World) (v v' : Value) (n m : Nat) : Prop where
  os : w'.os = w.os
  tape : w'.tape = w.tape
  output : w'.output = w.output
  size : w.heap.size ≤ w'.heap.size
  block : ∀ k, k < w.heap.size → w'.heap[k]? = w.heap[k]? ∨ ∃ off cap cur cur' e, blockOf v = some k ∧ v = .slice (some ⟨k, off, none⟩) n cap ∧ v' = .slice (some ⟨k, off, none⟩) (n + m) cap ∧
    w.heap[k]? = some (.cells cur e (0, 0)) ∧ w'.heap[k]? = some (.cells cur' e (0, 0)) ∧ cur'.size = cur.size ∧ ∀ j, ¬ (off + n ≤ j ∧ j < off + n + m) → cur'[j]? = cur[j]?
  lies : (m = 0 ∧ v' = v) ∨ (∃ a cap, v = .slice (some a) n cap ∧ v' = .slice (some a) (n + m) cap) ∨ ∃ cap, v' = .slice (some ⟨w.heap.size, 0, none⟩) (n + m) cap
theorem Grew.refl (w : World) (v : Value) (n : Nat) : Grew w w v v n 0 := ⟨rfl, rfl, rfl, Nat.le_refl _, fun _ _ => .inl rfl, .inl ⟨rfl, rfl⟩⟩

variable {P : Program}
theorem run_append_view (w : World) (base : Nat) (t ty e : TypeId) (i : TypeInfo) (z : Value) (bytes : Nat) (ht : P.underlying t = some (.slice e)) (hi : P.info? e = some i) (hz : i.zero = some z)
    (hsize : i.size = 1) (hby : i.bytes = bytes) (hzs : z.cells.size = 1) (v : Value) (n : Nat) (xs : List Value) (hown : viewRow w base e v n xs)
    (ao : Option Addr) (m c : Nat) (news : List Value) (hl : news.length = m) (hsrc : ∀ j u, news[j]? = some u → ∃ ad, ao = some ad ∧ w.cell? (ad.add j) = some u) (h1 : ∀ u ∈ news, u.oneCell' = true)
    (h63 : n + m ≤ maxLen) (hbytes : (n + m) * bytes ≤ 140737488355328) (hbase : base ≤ w.heap.size) :
    ∃ v' w', (Builtin.append_ #[t, t] ty #[v, .slice ao m c]).run P w = .ok v' w' ∧ viewRow w' base e v' (n + m) (xs ++ news) ∧ Grew w w' v v' n m := by
  by_cases hm : m = 0
  · subst hm
    have hn : news = [] := List.eq_nil_of_length_eq_zero hl
    subst hn
    refine ⟨v, w, ?_, by simpa using hown, Grew.refl w v n⟩
    rcases hown.2 with ⟨rfl, rfl⟩ | ⟨g, off, cap, cur, rfl, hbg, hg, hnc, hcm, hcs, hx⟩
    · cases ao <;> simp [Builtin.append_, run_underlying ht, sizeOf, typeInfo, hi, Builtin.lenOf, Builtin.firstCells, loadCells, loadCellsFrom]
    · cases ao <;> simp [Builtin.append_, run_underlying ht, sizeOf, typeInfo, hi, Builtin.lenOf, Builtin.firstCells, hnc, storeCells, loadCells, loadCellsFrom]
  · obtain ⟨ad, rfl⟩ : ∃ ad, ao = some ad := by
      cases news with
      | nil => simp at hl; omega
      | cons u r => obtain ⟨ad, e, _⟩ := hsrc 0 u rfl; exact ⟨ad, e⟩
    have hnews : ∀ j u, news[j]? = some u → w.cell? (ad.add j) = some u := fun j u hj => by
      obtain ⟨ad', e, h⟩ := hsrc j u hj
      cases e; exact h
    have hS : Src P i.size t (.slice (some ad) m c) m news w := Src.ofSlice w ht ad m c news (by rw [hl, hsize, Nat.mul_one]) hnews h1
    have grow : ∀ (bo : Option Addr) (cap : Nat) (hv : v = .slice bo n cap) (hold : (Builtin.firstCells i.size n (.slice bo n cap)).run P w.drew = .ok xs.toArray w.drew) (hg : cap < n + m),
        ∃ v' w', (Builtin.append_ #[t, t] ty #[v, .slice (some ad) m c]).run P w = .ok v' w' ∧ viewRow w' base e v' (n + m) (xs ++ news) ∧ Grew w w' v v' n m := by
      intro bo cap hv hold hg
      subst hv
      have hsmall : n + m ≤ 9223372036854775807 := by simp only [maxLen] at h63; omega
      have hr := run_append_grow_src (P := P) w t t ty e i z ht hi hz bo n cap xs hold _ m news hS hg (by omega) (by subst hby; exact growslice_fits (by omega) hbytes)
      have hge := grownCap_ge w (n + m) cap e
      have hcm : grownCap w (n + m) cap e ≤ maxLen := grownCap_le_maxLen w (n + m) cap e h63
      refine ⟨_, _, hr, ⟨by simp [hown.1, hl], .inr ⟨w.heap.size, 0, _, _, rfl, hbase, heap_alloc_new w.drew _, hge, hcm, ?_, ?_⟩⟩, ⟨rfl, rfl, rfl, by simp, fun k hk => .inl (heap_alloc_old w.drew _ hk), .inr (.inr ⟨_, rfl⟩)⟩⟩
      · simp only [Array.size_append, List.size_toArray, List.length_append, size_zeroCells, hzs, hown.1, hl]
        omega
      · intro j u hj
        have hlt := (List.getElem?_eq_some_iff.1 hj).1
        rw [Nat.zero_add, Array.getElem?_append_left (by simpa using hlt)]
        simpa using hj
    rcases hown.2 with ⟨rfl, rfl⟩ | ⟨g, off, cap, cur, rfl, hbg, hg, hnc, hcm, hcs, hx⟩
    · have hx : xs = [] := List.eq_nil_of_length_eq_zero hown.1
      refine grow none 0 rfl ?_ (by omega)
      subst hx
      simp [Builtin.firstCells, hsize]
    · by_cases hroom : n + m ≤ cap
      · have hcell : ∀ j, w.cell? ⟨g, off + n + j, none⟩ = cur[off + n + j]? := fun j => cell_of_row w g _ _ _ _ hg
        have hr := run_append_room_src (P := P) w t t ty e i ht hi g off n cap _ m news hS hroom (fun j hj => by rw [hsize, Nat.mul_one, hcell]; simp; omega) (fun j hj => by rw [hsize, Nat.mul_one]; exact frozen_of_row w g _ _ _ hg)
        rw [hsize, Nat.mul_one] at hr
        obtain ⟨cur', h2, h3, h4, h5⟩ := heap_setCells news (off + n) w cur hg
        refine ⟨_, _, hr, ⟨by simp [hown.1, hl], .inr ⟨g, off, cap, cur', rfl, hbg, h2, hroom, hcm, by rw [h3]; exact hcs, ?_⟩⟩, ⟨World.os_setCells w g _ _, ?_, World.output_setCells w g _ _, ?_, ?_, .inr (.inl ⟨_, _, rfl, rfl⟩)⟩⟩
        · intro j u hj
          have hlt := (List.getElem?_eq_some_iff.1 hj).1
          simp [hown.1, hl] at hlt
          by_cases hjn : j < n
          · rw [h4 (off + j) (by omega)]
            rw [List.getElem?_append_left (by have := hown.1; omega)] at hj
            exact hx j u hj
          · rw [h5 (off + j) (by omega) (by omega) (by omega)]
            rw [List.getElem?_append_right (by have := hown.1; omega)] at hj
            rw [← hj]
            congr 1
            have := hown.1
            omega
        · exact tape_setCells g _ _ w
        · rw [size_setCells]; exact Nat.le_refl _
        · intro k hk
          by_cases hkg : k = g
          · subst hkg
            refine .inr ⟨off, cap, cur, cur', e, ?_, rfl, rfl, hg, h2, h3, fun j hj => h4 j (by rw [hl]; exact hj)⟩
            cases cap with
            | zero => omega
            | succ c' => rfl
          · exact .inl (World.heap_setCells_other w g _ _ hk hkg)
      · refine grow (some ⟨g, off, none⟩) cap rfl ?_ (by omega)
        exact run_firstCells_some w.drew i.size n _ n cap xs (by rw [hown.1, hsize, Nat.mul_one]) (fun j u hj => by
          rw [show ((⟨g, off, none⟩ : Addr).add j) = ⟨g, off + j, none⟩ from by unfold Addr.add; split <;> simp_all]
          show w.drew.cell? _ = _
          rw [cell_of_row w.drew g _ _ _ _ hg]
          exact hx j u hj)
end Go.Tp
