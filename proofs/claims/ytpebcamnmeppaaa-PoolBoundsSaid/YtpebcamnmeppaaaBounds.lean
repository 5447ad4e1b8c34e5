/- The law PoolBounds in plain words, and its walk begun. -/
import Derived.Test.YtpebcamnmeppaaaBook
namespace Go.Po
open Go.RowKit
set_option linter.unusedVariables false
/-- What the book says is so. -/
structure Bk (s : St) (held gone : List Int) : Prop where
  hh : ∀ n, n ∈ held ↔ ∃ c ∈ s.busy, c.id = n
  gg : ∀ n ∈ gone, ∀ c ∈ s.all, c.id ≠ n
theorem bk0 (most wait : Int) : Bk ⟨most, wait, [], [], []⟩ [] [] := ⟨fun n => ⟨fun h => by simp at h, fun ⟨c, h, _⟩ => by simp at h⟩, fun n h => by simp at h⟩
theorem bk_take {s : St} (hi : Inv s) {held gone : List Int} (h : Bk s held gone) (e : ByteArray) :
    (∃ c ∈ s.free, c.id ∉ held ∧ c.id ∉ gone ∧ 0 ≤ c.id ∧ take s e = ((c.id, false, 0), (take s e).2) ∧ Bk (take s e).2 (held ++ [c.id]) gone ∧ (take s e).2.all.length = s.all.length) ∨
    ((∃ f r, take s e = ((-1, f, r), (take s e).2)) ∧ Bk (take s e).2 held gone ∧ (take s e).2.all.length = s.all.length) := by
  cases hl : lastOf s.free e with
  | some c =>
    obtain ⟨hc, _⟩ := lastOf_mem hl
    have e1 : take s e = ((c.id, false, 0), { s with busy := s.busy ++ [c], free := but c.id s.free }) := by simp only [take, hl]
    have hperm : (s.busy ++ [c] ++ but c.id s.free).Perm s.all := by
      rw [List.append_assoc]
      exact List.Perm.append_left _ (but_perm (nd_free hi) hc).symm
    refine .inl ⟨c, hc, fun hm => ?_, fun hm => h.gg _ hm c (List.mem_append_right _ hc) rfl, (hi.pos c (List.mem_append_right _ hc)).1, by rw [e1], ?_, by rw [e1]; exact hperm.length_eq⟩
    · obtain ⟨d, hd, he⟩ := (h.hh _).1 hm
      exact nd_apart hi hd hc he
    · rw [e1]
      refine ⟨fun n => ?_, fun n hn d hd => h.gg n hn d (hperm.subset hd)⟩
      show n ∈ held ++ [c.id] ↔ ∃ d ∈ s.busy ++ [c], d.id = n
      simp only [List.mem_append, List.mem_singleton, h.hh n]
      constructor
      · rintro (⟨d, h1, h2⟩ | rfl)
        · exact ⟨d, .inl h1, h2⟩
        · exact ⟨c, .inr rfl, rfl⟩
      · rintro ⟨d, h1 | rfl, h2⟩
        · exact .inl ⟨d, h1, h2⟩
        · exact .inr h2.symm
  | none =>
    by_cases hle : s.most ≤ (of s.busy e : Int) + kof s.kept e
    · have e1 : take s e = ((-1, false, 260), s) := by simp only [take, hl]; rw [if_pos hle]
      exact .inr ⟨⟨false, 260, by rw [e1]⟩, by rw [e1]; exact h, by rw [e1]⟩
    · have e1 : take s e = ((-1, true, 0), { s with kept := s.kept ++ [e] }) := by simp only [take, hl]; rw [if_neg hle]
      exact .inr ⟨⟨true, 0, by rw [e1]⟩, by rw [e1]; exact ⟨h.hh, h.gg⟩, by rw [e1]; rfl⟩
theorem bk_dial {s : St} {held gone : List Int} (h : Bk s held gone) (e : ByteArray) (i : Int) :
    ((dial s e i).1 = 0 ∧ i ∉ held ∧ Bk (dial s e i).2 (held ++ [i]) (gone.filter fun x => decide (x ≠ i)) ∧ (dial s e i).2.all.length = s.all.length + 1) ∨ ((dial s e i).1 = 2 ∧ (dial s e i).2 = s) := by
  unfold dial
  split
  · exact .inr ⟨rfl, rfl⟩
  · rename_i hc
    simp only [not_or] at hc
    obtain ⟨h1, h2, h3⟩ := hc
    refine .inl ⟨rfl, fun hm => ?_, ⟨fun n => ?_, fun n hn c hc => ?_⟩, ?_⟩
    · obtain ⟨c, hc, he⟩ := (h.hh _).1 hm
      exact h3 ⟨c, List.mem_append_left _ hc, he⟩
    · show n ∈ held ++ [i] ↔ ∃ d ∈ s.busy ++ [⟨i, e, 0⟩], d.id = n
      simp only [List.mem_append, List.mem_singleton, h.hh n]
      constructor
      · rintro (⟨d, h1, h2⟩ | rfl)
        · exact ⟨d, .inl h1, h2⟩
        · exact ⟨_, .inr rfl, rfl⟩
      · rintro ⟨d, h1 | rfl, h2⟩
        · exact .inl ⟨d, h1, h2⟩
        · exact .inr h2.symm
    · obtain ⟨hn1, hn2⟩ := List.mem_filter.1 hn
      simp only [St.all, List.mem_append, List.mem_singleton] at hc
      rcases hc with (hc | rfl) | hc
      · exact h.gg n hn1 c (List.mem_append_left _ hc)
      · have : n ≠ i := by simpa using hn2
        exact fun e => this e.symm
      · exact h.gg n hn1 c (List.mem_append_right _ hc)
    · simp only [St.all, List.length_append, List.length_cons, List.length_nil]; omega
theorem bk_fail {s : St} {held gone : List Int} (h : Bk s held gone) (e : ByteArray) : Bk (fail s e).2 held gone ∧ (fail s e).2.all.length = s.all.length := by
  unfold fail
  split
  · exact ⟨h, rfl⟩
  · exact ⟨⟨h.hh, h.gg⟩, rfl⟩
theorem filter_same {held : List Int} {i : Int} (h : i ∉ held) : (held.filter fun x => decide (x ≠ i)) = held := List.filter_eq_self.2 (fun x hx => by
  have : x ≠ i := fun e => h (e ▸ hx)
  simpa using this)
theorem bk_put {s : St} (hi : Inv s) {held gone : List Int} (h : Bk s held gone) (i now : Int) :
    (((put s i now).1 = 0 ∧ i ∈ held) ∨ ((put s i now).1 = 2 ∧ i ∉ held)) ∧ Bk (put s i now).2 (held.filter fun x => decide (x ≠ i)) gone ∧ (put s i now).2.all.length = s.all.length := by
  cases hf : fnd s.busy i with
  | none =>
    have e1 : put s i now = (2, s) := by simp only [put, hf]
    have hni : i ∉ held := fun hm => by
      obtain ⟨c, hc, he⟩ := (h.hh i).1 hm
      exact fnd_none hf c hc he
    rw [e1, filter_same hni]
    exact ⟨.inr ⟨rfl, hni⟩, h, rfl⟩
  | some c =>
    obtain ⟨hc, rfl⟩ := fnd_some hf
    have e1 : put s c.id now = (0, { s with busy := but c.id s.busy, free := s.free ++ [{ c with since := now }] }) := by simp only [put, hf]
    rw [e1]
    have hlen := (but_perm (nd_busy hi) hc).length_eq
    refine ⟨.inl ⟨rfl, (h.hh _).2 ⟨c, hc, rfl⟩⟩, ⟨fun n => ?_, fun n hn d hd => ?_⟩, ?_⟩
    · show n ∈ held.filter _ ↔ ∃ d ∈ but c.id s.busy, d.id = n
      rw [List.mem_filter, h.hh n]
      constructor
      · rintro ⟨⟨d, h1, h2⟩, h3⟩
        have h3 : n ≠ c.id := by simpa using h3
        exact ⟨d, mem_but.2 ⟨h1, by rw [h2]; exact h3⟩, h2⟩
      · rintro ⟨d, h1, h2⟩
        obtain ⟨h4, h5⟩ := mem_but.1 h1
        exact ⟨⟨d, h4, h2⟩, by rw [← h2]; simpa using h5⟩
    · simp only [St.all, List.mem_append, List.mem_singleton, mem_but] at hd
      rcases hd with hd | hd | rfl
      · exact h.gg n hn d (List.mem_append_left _ hd.1)
      · exact h.gg n hn d (List.mem_append_right _ hd)
      · exact h.gg n hn c (List.mem_append_left _ hc)
    · simp only [St.all, List.length_append, List.length_cons, List.length_nil] at hlen ⊢
      omega
theorem bk_poison {s : St} (hi : Inv s) {held gone : List Int} (h : Bk s held gone) (i : Int) :
    ((poison s i).1 = 0 ∧ Bk (poison s i).2 (held.filter fun x => decide (x ≠ i)) (gone ++ [i]) ∧ (poison s i).2.all.length + 1 = s.all.length) ∨ ((poison s i).1 = 2 ∧ (poison s i).2 = s) := by
  have key : ∀ c ∈ s.all, c.id = i → Bk { s with busy := but i s.busy, free := but i s.free } (held.filter fun x => decide (x ≠ i)) (gone ++ [i]) := fun c hc he => by
    refine ⟨fun n => ?_, fun n hn d hd => ?_⟩
    · show n ∈ held.filter _ ↔ ∃ d ∈ but i s.busy, d.id = n
      rw [List.mem_filter, h.hh n]
      constructor
      · rintro ⟨⟨d, h1, h2⟩, h3⟩
        have h3 : n ≠ i := by simpa using h3
        exact ⟨d, mem_but.2 ⟨h1, by rw [h2]; exact h3⟩, h2⟩
      · rintro ⟨d, h1, h2⟩
        obtain ⟨h4, h5⟩ := mem_but.1 h1
        exact ⟨⟨d, h4, h2⟩, by rw [← h2]; simpa using h5⟩
    · simp only [St.all, List.mem_append, mem_but] at hd
      rcases List.mem_append.1 hn with hn | hn
      · rcases hd with hd | hd
        · exact h.gg n hn d (List.mem_append_left _ hd.1)
        · exact h.gg n hn d (List.mem_append_right _ hd.1)
      · rw [List.mem_singleton] at hn
        subst hn
        rcases hd with hd | hd
        · exact hd.2
        · exact hd.2
  cases hf : fnd s.busy i with
  | some c =>
    obtain ⟨hc, rfl⟩ := fnd_some hf
    have h2 : but c.id s.free = s.free := but_none (fun d hd he => nd_apart hi hc hd he.symm)
    have e1 : poison s c.id = (0, { s with busy := but c.id s.busy, free := but c.id s.free }) := by simp only [poison, hf, h2]
    have hlen := (but_perm (nd_busy hi) hc).length_eq
    rw [e1]
    refine .inl ⟨rfl, key c (List.mem_append_left _ hc) rfl, ?_⟩
    simp only [St.all, List.length_append, List.length_cons, h2] at hlen ⊢
    omega
  | none =>
    cases hg : fnd s.free i with
    | some c =>
      obtain ⟨hc, rfl⟩ := fnd_some hg
      have h2 : but c.id s.busy = s.busy := but_none (fun d hd => fnd_none hf d hd)
      have e1 : poison s c.id = (0, { s with busy := but c.id s.busy, free := but c.id s.free }) := by simp only [poison, hf, hg, h2]
      have hlen := (but_perm (nd_free hi) hc).length_eq
      rw [e1]
      refine .inl ⟨rfl, key c (List.mem_append_right _ hc) rfl, ?_⟩
      simp only [St.all, List.length_append, List.length_cons, h2] at hlen ⊢
      omega
    | none =>
      have e1 : poison s i = (2, s) := by simp only [poison, hf, hg]
      rw [e1]
      exact .inr ⟨rfl, rfl⟩
theorem filter_len {α : Type} (q : α → Bool) : ∀ l : List α, (l.filter q).length + (l.filter fun c => !q c).length = l.length
  | [] => rfl
  | a :: l => by
    have := filter_len q l
    cases h : q a <;> simp [List.filter_cons, h] <;> omega
theorem bk_expire {s : St} (hi : Inv s) {held gone : List Int} (h : Bk s held gone) (now : Int) :
    (∀ x ∈ (expire s now).1, x ∉ held ∧ x ∉ gone) ∧ (expire s now).1.Pairwise (· < ·) ∧ Bk (expire s now).2 held (gone ++ (expire s now).1) ∧ (expire s now).2.all.length + (expire s now).1.length = s.all.length := by
  have hm : ∀ x, x ∈ (expire s now).1 ↔ ∃ c ∈ s.free, c.id = x ∧ old s now c = true := fun x => by
    show x ∈ List.mergeSort _ _ ↔ _
    rw [List.mem_mergeSort, List.mem_map]
    constructor
    · rintro ⟨c, h1, h2⟩
      obtain ⟨h3, h4⟩ := List.mem_filter.1 h1
      exact ⟨c, h3, h2, h4⟩
    · rintro ⟨c, h1, h2, h3⟩
      exact ⟨c, List.mem_filter.2 ⟨h1, h3⟩, h2⟩
  have hnd : (expire s now).1.Nodup := (List.mergeSort_perm _ _).nodup_iff.2 (((List.filter_sublist).map C.id).nodup (nd_free hi))
  have hle : (expire s now).1.Pairwise fun a b => decide (a ≤ b) = true := List.pairwise_mergeSort (by simp; omega) (by simp; omega) _
  refine ⟨fun x hx => ?_, ?_, ⟨fun n => h.hh n, fun n hn c hc => ?_⟩, ?_⟩
  · obtain ⟨c, h1, h2, _⟩ := (hm x).1 hx
    refine ⟨fun hh => ?_, fun hg => h.gg x hg c (List.mem_append_right _ h1) h2⟩
    obtain ⟨d, hd, he⟩ := (h.hh x).1 hh
    exact nd_apart hi hd h1 (he.trans h2.symm)
  · refine (List.pairwise_and_iff.2 ⟨hle, hnd⟩).imp (fun {a b} hab => ?_)
    have h1 : a ≤ b := by simpa using hab.1
    have h2 := hab.2
    omega
  · have hcA : c ∈ s.all := by
      rcases List.mem_append.1 hc with hc | hc
      · exact List.mem_append_left _ hc
      · exact List.mem_append_right _ (List.mem_filter.1 hc).1
    rcases List.mem_append.1 hn with hn | hn
    · exact h.gg n hn c hcA
    · obtain ⟨d, h1, h2, h3⟩ := (hm n).1 hn
      intro he
      have := one_of hi hcA (List.mem_append_right _ h1) (he.trans h2.symm)
      subst this
      rcases List.mem_append.1 hc with hc | hc
      · exact nd_apart hi hc h1 rfl
      · have := (List.mem_filter.1 hc).2
        rw [h3] at this
        cases this
  · have e1 : (expire s now).1.length = (s.free.filter (old s now)).length := by
      show (List.mergeSort _ _).length = _
      rw [List.length_mergeSort, List.length_map]
    have e2 : ((s.free.filter (old s now)).length + (s.free.filter fun c => !old s now c).length) = s.free.length := by
      exact filter_len (old s now) s.free
    show (s.busy ++ s.free.filter fun c => !old s now c).length + (expire s now).1.length = (s.busy ++ s.free).length
    rw [List.length_append, List.length_append, e1]
    omega
theorem most_take (s : St) (e : ByteArray) : (take s e).2.most = s.most := by
  unfold take; split
  · rfl
  · split <;> rfl
theorem most_dial (s : St) (e : ByteArray) (i : Int) : (dial s e i).2.most = s.most := by unfold dial; split <;> rfl
theorem most_fail (s : St) (e : ByteArray) : (fail s e).2.most = s.most := by unfold fail; split <;> rfl
theorem most_put (s : St) (i now : Int) : (put s i now).2.most = s.most := by unfold put; split <;> rfl
theorem most_poison (s : St) (i : Int) : (poison s i).2.most = s.most := by
  unfold poison; split
  · rfl
  · split <;> rfl
theorem most_expire (s : St) (now : Int) : (expire s now).2.most = s.most := rfl
end Go.Po
