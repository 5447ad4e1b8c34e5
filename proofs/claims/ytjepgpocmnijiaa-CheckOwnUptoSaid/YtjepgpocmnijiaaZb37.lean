/- Merging what makes one configuration another into the one makes the other: in plain words. -/
import Ieee.Arith
import Derived.Test.YtjepgpocmnijiaaZb14
import Derived.Test.YtjepgpocmnijiaaZb35
import Derived.Test.YtjepgpocmnijiaaZb15
section
/- Same is symmetric. -/
namespace Go.Ck
open Ieee
set_option linter.unusedVariables false
theorem datum_sym (u v : Datum) : (Datum.order u v == some Ordering.eq) = (Datum.order v u == some Ordering.eq) := by
  cases u with
  | nan _ _ => cases v <;> simp [Datum.order]
  | infinity s =>
    cases v with
    | nan _ _ => simp [Datum.order]
    | infinity t => cases s <;> cases t <;> simp [Datum.order] <;> decide
    | number t n j => cases s <;> cases t <;> simp [Datum.order] <;> decide
  | number s m i =>
    cases v with
    | nan _ _ => simp [Datum.order]
    | infinity t => cases s <;> cases t <;> simp [Datum.order] <;> decide
    | number t n j =>
      show (some (compare (signed s m (i - min i j).toNat) (signed t n (j - min i j).toNat)) == some Ordering.eq) = (some (compare (signed t n (j - min j i).toNat) (signed s m (i - min j i).toNat)) == some Ordering.eq)
      rw [show min j i = min i j by omega]
      generalize signed s m (i - min i j).toNat = x
      generalize signed t n (j - min i j).toNat = y
      rcases Int.lt_trichotomy x y with h | h | h
      · rw [Int.compare_eq_lt.2 h, Int.compare_eq_gt.2 h]; rfl
      · rw [h]
      · rw [Int.compare_eq_gt.2 h, Int.compare_eq_lt.2 h]; rfl
theorem eqF_sym (x y : Nat) : eqF x y = eqF y x := datum_sym _ _
theorem sameW_sym (x y : Nat) : sameW x y = sameW y x := by
  unfold sameW
  rw [eqF_sym x y, Bool.or_comm (eqF x x)]
theorem seq_sym (a b : ByteArray) : seq a b = seq b a := by
  rw [Bool.eq_iff_iff, seq_iff, seq_iff]; exact eq_comm
theorem sameT_sym (a b : Tgt) : sameT a b = sameT b a := by
  unfold sameT; rw [seq_sym a.service, seq_sym a.split, sameW_sym]
theorem sameU_sym (a b : Rul) : sameU a b = sameU b a := by
  unfold sameU; rw [seq_sym a.path, seq_sym a.method, seq_sym a.split, Bool.beq_comm]
theorem eqL_sym {α : Type} {p : α → α → Bool} (hp : ∀ x y, p x y = p y x) (a b : List α) (h : eqL p a b = true) : eqL p b a = true := by
  have hl : a.length = b.length := by
    unfold eqL at h
    rw [Bool.and_eq_true] at h
    simpa using h.1
  refine eqL_yes hl.symm (fun j x y hx hy => ?_)
  rw [hp]
  cases hq : p y x with
  | true => rfl
  | false => rw [eqL_no hl hy hx hq] at h; cases h
theorem sameR_sym {a b : Res} (h : sameR a b = true) : sameR b a = true := by
  unfold sameR isK at h ⊢
  simp only [Bool.and_eq_true, beq_iff_eq] at h ⊢
  obtain ⟨⟨h1, h2⟩, h3, h4, h5, h6, h7, h8⟩ := h
  exact ⟨⟨h1.symm, by rw [seq_sym]; exact h2⟩, by rw [seq_sym]; exact h3, by rw [seq_sym]; exact h4, h5.symm, eqL_sym seq_sym _ _ h6, eqL_sym sameT_sym _ _ h7, eqL_sym sameU_sym _ _ h8⟩
end Go.Ck
end

section

namespace Go.Ck
set_option linter.unusedVariables false
open Go.Proofs.Ytjepgpocmnijiaa (Key)
/-- What a merge of a difference has under a key. -/
def Like (b o : Option Res) : Prop := match b with
  | none => o = none
  | some r => ∃ x, o = some x ∧ sameR x r = true
theorem diff_new {A B : List Res} {k : Key} {r x : Res} (hB : fnd B k = some r) (h : diffK A B k = some x) : x = r := by
  unfold diffK at h
  rw [hB] at h
  unfold newK at h
  simp only at h
  split at h
  · split at h
    · cases h
    · cases h; rfl
  · cases h; rfl
theorem diff_gone {A B : List Res} {k : Key} {x : Res} (hB : fnd B k = none) (h : diffK A B k = some x) : x = delR k ∧ ∃ a, fnd A k = some a := by
  unfold diffK goneK at h
  rw [hB] at h
  simp only at h
  obtain ⟨a, ha, hx⟩ := Option.map_eq_some_iff.1 h
  exact ⟨hx.symm, a, ha⟩
theorem diff_none {A B : List Res} {k : Key} (h : diffK A B k = none) : Like (fnd B k) (fnd A k) := by
  unfold diffK goneK newK at h
  cases hB : fnd B k with
  | none =>
    rw [hB] at h
    simp only at h
    exact Option.map_eq_none_iff.1 h
  | some r =>
    rw [hB] at h
    simp only at h
    cases hA : fnd A k with
    | none => rw [hA] at h; cases h
    | some o =>
      rw [hA] at h
      simp only at h
      split at h
      · exact ⟨o, rfl, by assumption⟩
      · cases h
theorem like_all {A B d all : List Res} (hB : Ord B) (h : IsDiff A B d) (hm : MgS A d d.length all) (k : Key) : Like (fnd B k) (fnd all k) := by
  cases hd : fnd d k with
  | none =>
    have e := mgs_conf hm (k := k) (fun j x hj hx => fnd_none.1 hd x (List.mem_of_getElem? hx))
    rw [e]
    rw [h.2] at hd
    exact diff_none hd
  | some x =>
    obtain ⟨hk, hx⟩ := fnd_some hd
    obtain ⟨j, hj⟩ := List.mem_iff_getElem?.1 hx
    have hjl := (List.getElem?_eq_some_iff.1 hj).1
    have e := mgs_doc hm hjl hj
    rw [hk] at e
    rw [h.2] at hd
    cases hb : fnd B k with
    | none =>
      obtain ⟨rfl, _⟩ := diff_gone hb hd
      rw [e]; rfl
    | some r =>
      have hxr := diff_new hb hd
      subst hxr
      have hdel := (hB.kind x (fnd_some hb).2).2.2
      rw [e, hdel]
      exact ⟨x, rfl, sameR_refl x⟩
theorem keys_eq {a b : List Res} (ha : Srt a) (hb : Srt b) (h : ∀ k, (fnd a k).isSome = (fnd b k).isSome) : a.map rk = b.map rk := by
  have hs : ∀ {l : List Res}, Srt l → Srt (l.map fun r => delR (rk r)) := fun h => List.pairwise_map.2 (h.imp fun h => h)
  have hf : ∀ (l : List Res) (k : Key), fnd (l.map fun r => delR (rk r)) k = (fnd l k).map fun _ => delR k := fun l k => by
    induction l with
    | nil => rfl
    | cons x l ih =>
      rw [List.map_cons, fnd_cons, fnd_cons, rk_delR, ih]
      by_cases e : rk x = k
      · rw [if_pos e, if_pos e, e]; rfl
      · rw [if_neg e, if_neg e]
  have e := (hs ha).ext (hs hb) (fun k => by
    rw [hf, hf]
    have := h k
    cases h1 : fnd a k <;> cases h2 : fnd b k <;> rw [h1, h2] at this <;> first | rfl | cases this)
  have := congrArg (List.map rk) e
  rw [List.map_map, List.map_map] at this
  exact this
theorem like_list {a b : List Res} (ha : Srt a) (hb : Srt b) (h : ∀ k, Like (fnd b k) (fnd a k)) : a.length = b.length ∧ eqL sameR a b = true := by
  have hk := keys_eq ha hb (fun k => by
    have := h k
    unfold Like at this
    cases h2 : fnd b k with
    | none => rw [h2] at this; simp only at this; rw [this]
    | some r => rw [h2] at this; obtain ⟨x, hx, _⟩ := this; rw [hx]; rfl)
  have hl : a.length = b.length := by simpa using congrArg List.length hk
  refine ⟨hl, eqL_yes hl (fun j x y hx hy => ?_)⟩
  have e1 : rk x = rk y := by
    have h1 : (a.map rk)[j]? = some (rk x) := by rw [List.getElem?_map, hx]; rfl
    have h2 : (b.map rk)[j]? = some (rk y) := by rw [List.getElem?_map, hy]; rfl
    rw [hk, h2] at h1
    exact (Option.some.inj h1).symm
  have := h (rk y)
  rw [hb.fnd_mem (List.mem_of_getElem? hy), ← e1, ha.fnd_mem (List.mem_of_getElem? hx)] at this
  obtain ⟨z, hz, hs⟩ := this
  cases hz
  exact hs
theorem diff_kind {A B d : List Res} (hA : Ord A) (hB : Ord B) (h : IsDiff A B d) {x : Res} (hx : x ∈ d) : badKind x = false ∧ (x.del = true → ∃ a, fnd A (rk x) = some a) := by
  have e := h.1.fnd_mem hx
  rw [h.2] at e
  have bad : ∀ {y : Res}, 1 ≤ y.kind ∧ y.kind ≤ 4 → badKind y = false := fun h => by
    unfold badKind
    rw [Bool.or_eq_false_iff, decide_eq_false_iff_not, decide_eq_false_iff_not]
    omega
  cases hb : fnd B (rk x) with
  | none =>
    obtain ⟨e1, a, ha⟩ := diff_gone hb e
    obtain ⟨h1, h2⟩ := fnd_some ha
    have hk := hA.kind a h2
    have e2 : x.kind = a.kind := by rw [show x.kind = (rk x).1 from rfl, ← h1]; rfl
    exact ⟨bad (by rw [e2]; exact ⟨hk.1, hk.2.1⟩), fun _ => ⟨a, ha⟩⟩
  | some r =>
    have e1 := diff_new hb e
    subst e1
    have hk := hB.kind x (fnd_some hb).2
    exact ⟨bad ⟨hk.1, hk.2.1⟩, fun q => by rw [hk.2.2] at q; cases q⟩
/-- The merge of a difference succeeds, and has what the other list has. -/
theorem merge_diff {A B d m : List Res} {i f : Int} (hA : outI A < 0) (hB : Ord B) (hl : B.length ≤ 64) (h : IsDiff A B d) (hm : MgE A d m i f) : f = 0 ∧ i = 0 ∧ m.length = B.length ∧ eqL sameR m B = true ∧ Srt m ∧ ∀ k, Like (fnd B k) (fnd m k) := by
  have hOA := ord_of hA
  have hsB := srt_of_ord hB
  cases hm with
  | out q => omega
  | kind _ _ hd hb =>
    have := (diff_kind hOA hB h (List.mem_of_getElem? hd)).1
    rw [hb] at this; cases this
  | twice _ _ hd _ ht =>
    rw [(h.1.cut hd).1] at ht; cases ht
  | del _ hs hd _ _ hdel hf =>
    obtain ⟨a, ha⟩ := (diff_kind hOA hB h (List.mem_of_getElem? hd)).2 hdel
    have e := mgs_conf hs (k := rk _) (fun j y hj hy q => fnd_none.1 (h.1.cut hd).1 y (List.mem_of_getElem? (by rw [List.getElem?_take_of_lt hj]; exact hy)) q)
    rw [hf, ha] at e; cases e
  | count _ hs hc =>
    have := (like_list hs.srt hsB (like_all hB h hs)).1
    omega
  | fine _ hs hc =>
    obtain ⟨e1, e2⟩ := like_list hs.srt hsB (like_all hB h hs)
    exact ⟨rfl, rfl, e1, e2, hs.srt, like_all hB h hs⟩
theorem diff_like {B m l : List Res} (hk : ∀ k, Like (fnd B k) (fnd m k)) (h : IsDiff B m l) : l = [] := by
  refine h.1.ext List.Pairwise.nil (fun k => ?_)
  rw [h.2, fnd_nil]
  have := hk k
  unfold diffK goneK newK
  cases hb : fnd B k with
  | none => rw [hb] at this; simp only [Like] at this; rw [this]; simp
  | some o =>
    rw [hb] at this
    obtain ⟨r, hr, hs⟩ := this
    rw [hr]
    simp [sameR_sym hs]
theorem diff_self {A l : List Res} (h : IsDiff A A l) : l = [] := diff_like (fun k => by
  cases hb : fnd A k with
  | none => rfl
  | some o => exact ⟨o, rfl, sameR_refl o⟩) h
theorem diff_next {A B d : List Res} (h : IsDiff A B d) {i : Nat} {x y : Res} (hx : d[i]? = some x) (hy : d[i + 1]? = some y) : less x y = true := by
  have h1 := (List.getElem?_eq_some_iff.1 hx).1
  have h2 := (List.getElem?_eq_some_iff.1 hy).1
  have := List.pairwise_iff_getElem.1 h.1 i (i + 1) h1 h2 (by omega)
  rw [(List.getElem?_eq_some_iff.1 hx).2, (List.getElem?_eq_some_iff.1 hy).2] at this
  exact this
end Go.Ck
end
