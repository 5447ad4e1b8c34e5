/- A pool in plain words: its connections by lists, what each call makes of them, what stays true of them. No program in sight. -/
import Derived.WalkKit
namespace Go.Po
open Go.RowKit
set_option linter.unusedVariables false
structure C where
  id : Int
  ep : ByteArray
  since : Int
structure St where
  most : Int
  wait : Int
  busy : List C
  free : List C
  kept : List ByteArray
def of (l : List C) (e : ByteArray) : Nat := l.countP fun c => decide (c.ep = e)
def kof (l : List ByteArray) (e : ByteArray) : Nat := l.countP fun x => decide (x = e)
def but (i : Int) (l : List C) : List C := l.filter fun c => decide (c.id ≠ i)
def fnd (l : List C) (i : Int) : Option C := l.find? fun c => decide (c.id = i)
def St.all (s : St) : List C := s.busy ++ s.free
def St.cnt (s : St) (e : ByteArray) : Int × Int × Int := (of s.busy e, of s.free e, kof s.kept e)
structure Inv (s : St) : Prop where
  nd : (s.all.map (·.id)).Nodup
  pos : ∀ c ∈ s.all, 0 ≤ c.id ∧ c.id ≤ 9223372036854775807
  sn : ∀ c ∈ s.all, -9223372036854775808 ≤ c.since ∧ c.since ≤ 9223372036854775807
  m : 1 ≤ s.most ∧ s.most ≤ 64
  w : 0 ≤ s.wait ∧ s.wait ≤ 9223372036854775807
  tot : ∀ e, (of s.busy e + of s.free e + kof s.kept e : Int) ≤ s.most
theorem of_append (l l' : List C) (e : ByteArray) : of (l ++ l') e = of l e + of l' e := List.countP_append
theorem of_one (c : C) (e : ByteArray) : of [c] e = if c.ep = e then 1 else 0 := by simp [of, List.countP_cons]
theorem kof_append (l l' : List ByteArray) (e : ByteArray) : kof (l ++ l') e = kof l e + kof l' e := List.countP_append
theorem kof_one (x e : ByteArray) : kof [x] e = if x = e then 1 else 0 := by simp [kof, List.countP_cons]
theorem mem_but {i : Int} {l : List C} {c : C} : c ∈ but i l ↔ c ∈ l ∧ c.id ≠ i := by simp [but]
theorem but_none {i : Int} {l : List C} (h : ∀ c ∈ l, c.id ≠ i) : but i l = l := List.filter_eq_self.2 (fun c hc => by simpa using h c hc)
theorem of_but {l : List C} (hn : (l.map (·.id)).Nodup) {c : C} (hc : c ∈ l) (e : ByteArray) : of l e = of (but c.id l) e + if c.ep = e then 1 else 0 := by
  induction l with
  | nil => cases hc
  | cons a l ih =>
    rw [List.map_cons, List.nodup_cons] at hn
    have e0 : of (a :: l) e = of l e + if a.ep = e then 1 else 0 := by simp [of, List.countP_cons]
    rcases List.mem_cons.1 hc with rfl | hc
    · have e1 : but c.id (c :: l) = l := by
        rw [but, List.filter_cons_of_neg (by simp)]
        exact but_none (fun d hd he => hn.1 (List.mem_map.2 ⟨d, hd, he⟩))
      rw [e1, e0]
    · have hne : a.id ≠ c.id := fun he => hn.1 (List.mem_map.2 ⟨c, hc, he.symm⟩)
      have e1 : but c.id (a :: l) = a :: but c.id l := by rw [but, List.filter_cons_of_pos (by simpa using hne)]; rfl
      have e2 : of (a :: but c.id l) e = of (but c.id l) e + if a.ep = e then 1 else 0 := by simp [of, List.countP_cons]
      rw [e1, e0, e2, ih hn.2 hc]; omega
/-- A place that is kept, given up. -/
def unk (e : ByteArray) : List ByteArray → List ByteArray
  | [] => []
  | x :: l => if x = e then l else x :: unk e l
theorem kof_cons (x : ByteArray) (l : List ByteArray) (e : ByteArray) : kof (x :: l) e = kof l e + if x = e then 1 else 0 := by simp [kof, List.countP_cons]
theorem kof_unk (e : ByteArray) : ∀ l, kof l e ≠ 0 → ∀ f, kof l f = kof (unk e l) f + if e = f then 1 else 0
  | [], h, f => by simp [kof] at h
  | x :: l, h, f => by
    by_cases hx : x = e
    · subst hx
      simp only [unk, if_true, kof_cons]
    · simp only [unk, if_neg hx, kof_cons]
      rw [kof_cons, if_neg hx, Nat.add_zero] at h
      rw [kof_unk e l h f]; omega
theorem kof_unk_none (e : ByteArray) : ∀ l, kof l e = 0 → unk e l = l
  | [], _ => rfl
  | x :: l, h => by
    rw [kof_cons] at h
    have hx : x ≠ e := by rintro rfl; simp at h
    rw [if_neg hx, Nat.add_zero] at h
    simp only [unk, if_neg hx, kof_unk_none e l h]
/-- The last one of an endpoint's. -/
def lastOf (l : List C) (e : ByteArray) : Option C := (l.filter fun c => decide (c.ep = e)).getLast?
theorem lastOf_mem {l : List C} {e : ByteArray} {c : C} (h : lastOf l e = some c) : c ∈ l ∧ c.ep = e := by
  have := List.mem_of_getLast? h
  simpa using this
theorem lastOf_none {l : List C} {e : ByteArray} (h : lastOf l e = none) : ∀ c ∈ l, c.ep ≠ e := fun c hc he => by
  rw [lastOf, List.getLast?_eq_none_iff] at h
  have : c ∈ l.filter fun c => decide (c.ep = e) := by simp [hc, he]
  rw [h] at this; cases this
/-- Where turns rise along the list, the last one is that with the greatest turn. -/
theorem lastOf_greatest {l : List C} {e : ByteArray} {t : Int → Int} (ho : l.Pairwise fun a b => t a.id < t b.id) {c : C} (hc : c ∈ l) (he : c.ep = e) (hg : ∀ d ∈ l, d.ep = e → t d.id ≤ t c.id) : lastOf l e = some c := by
  have hf : (l.filter fun c => decide (c.ep = e)).Pairwise fun a b => t a.id < t b.id := ho.filter _
  have hcf : c ∈ l.filter fun c => decide (c.ep = e) := by simp [hc, he]
  have hgf : ∀ d ∈ l.filter fun c => decide (c.ep = e), t d.id ≤ t c.id := fun d hd => by
    simp at hd; exact hg d hd.1 hd.2
  unfold lastOf
  generalize l.filter (fun c => decide (c.ep = e)) = m at hf hcf hgf
  induction m with
  | nil => cases hcf
  | cons a m ih =>
    rw [List.pairwise_cons] at hf
    cases m with
    | nil => simp at hcf; rw [hcf]; rfl
    | cons b m =>
      rw [List.getLast?_cons_cons]
      refine ih hf.2 ?_ (fun d hd => hgf d (List.mem_cons_of_mem _ hd))
      rcases List.mem_cons.1 hcf with rfl | h
      · have h1 := hf.1 b List.mem_cons_self
        have h2 := hgf b (List.mem_cons_of_mem _ List.mem_cons_self)
        omega
      · exact h
/-! ### what the calls make of it -/
def take (s : St) (e : ByteArray) : (Int × Bool × Int) × St :=
  match lastOf s.free e with
  | some c => ((c.id, false, 0), { s with busy := s.busy ++ [c], free := but c.id s.free })
  | none => if s.most ≤ (of s.busy e : Int) + kof s.kept e then ((-1, false, 260), s) else ((-1, true, 0), { s with kept := s.kept ++ [e] })
def hasId (s : St) (i : Int) : Prop := ∃ c ∈ s.all, c.id = i
open Classical in
noncomputable def dial (s : St) (e : ByteArray) (i : Int) : Int × St :=
  if kof s.kept e = 0 ∨ i < 0 ∨ hasId s i then (2, s) else (0, { s with kept := unk e s.kept, busy := s.busy ++ [⟨i, e, 0⟩] })
def fail (s : St) (e : ByteArray) : Int × St := if kof s.kept e = 0 then (2, s) else (0, { s with kept := unk e s.kept })
def put (s : St) (i now : Int) : Int × St :=
  match fnd s.busy i with
  | some c => (0, { s with busy := but i s.busy, free := s.free ++ [{ c with since := now }] })
  | none => (2, s)
def poison (s : St) (i : Int) : Int × St :=
  match fnd s.busy i with
  | some _ => (0, { s with busy := but i s.busy })
  | none => match fnd s.free i with
    | some _ => (0, { s with free := but i s.free })
    | none => (2, s)
/-- Is a free one to go? -/
def old (s : St) (now : Int) (c : C) : Bool := decide (c.since ≤ now) && decide (s.wait ≤ wrap64 (now - c.since))
def expire (s : St) (now : Int) : List Int × St :=
  (((s.free.filter (old s now)).map (·.id)).mergeSort fun x y => decide (x ≤ y), { s with free := s.free.filter fun c => !old s now c })
theorem fnd_some {l : List C} {i : Int} {c : C} (h : fnd l i = some c) : c ∈ l ∧ c.id = i := ⟨List.mem_of_find?_eq_some h, by simpa using List.find?_some h⟩
theorem fnd_none {l : List C} {i : Int} (h : fnd l i = none) : ∀ c ∈ l, c.id ≠ i := fun c hc => by
  have := List.find?_eq_none.1 h c hc
  simpa using this
theorem fnd_of {l : List C} (hn : (l.map (·.id)).Nodup) {c : C} (hc : c ∈ l) : fnd l c.id = some c := by
  cases h : fnd l c.id with
  | none => exact (fnd_none h c hc rfl).elim
  | some d =>
    obtain ⟨h1, h2⟩ := fnd_some h
    obtain ⟨i, hi⟩ := List.mem_iff_getElem?.1 h1
    obtain ⟨j, hj⟩ := List.mem_iff_getElem?.1 hc
    obtain ⟨hi1, hi2⟩ := List.getElem?_eq_some_iff.1 hi
    obtain ⟨hj1, hj2⟩ := List.getElem?_eq_some_iff.1 hj
    have : i = j := (List.getElem_inj (h₀ := by simpa using hi1) (h₁ := by simpa using hj1) hn).1 (by rw [List.getElem_map, List.getElem_map, hi2, hj2, h2])
    subst this
    rw [← hi2, ← hj2]
/-! ### what stays true -/
theorem all_perm {l l' : List C} (h : l.Perm l') : (l.map (·.id)).Nodup ↔ (l'.map (·.id)).Nodup := (h.map _).nodup_iff
theorem but_perm {l : List C} (hn : (l.map (·.id)).Nodup) {c : C} (hc : c ∈ l) : l.Perm (c :: but c.id l) := by
  induction l with
  | nil => cases hc
  | cons a l ih =>
    rw [List.map_cons, List.nodup_cons] at hn
    rcases List.mem_cons.1 hc with rfl | hc
    · have e1 : but c.id (c :: l) = l := by
        rw [but, List.filter_cons_of_neg (by simp)]
        exact but_none (fun d hd he => hn.1 (List.mem_map.2 ⟨d, hd, he⟩))
      rw [e1]
    · have hne : a.id ≠ c.id := fun he => hn.1 (List.mem_map.2 ⟨c, hc, he.symm⟩)
      have e1 : but c.id (a :: l) = a :: but c.id l := by rw [but, List.filter_cons_of_pos (by simpa using hne)]; rfl
      rw [e1]
      exact ((ih hn.2 hc).cons a).trans (List.Perm.swap _ _ _)
theorem nd_busy {s : St} (h : Inv s) : (s.busy.map (·.id)).Nodup := by
  have := h.nd; rw [St.all, List.map_append] at this; exact (List.nodup_append.1 this).1
theorem nd_free {s : St} (h : Inv s) : (s.free.map (·.id)).Nodup := by
  have := h.nd; rw [St.all, List.map_append] at this; exact (List.nodup_append.1 this).2.1
theorem nd_apart {s : St} (h : Inv s) {c d : C} (hc : c ∈ s.busy) (hd : d ∈ s.free) : c.id ≠ d.id := by
  have := h.nd; rw [St.all, List.map_append] at this
  exact fun e => (List.nodup_append.1 this).2.2 _ (List.mem_map.2 ⟨c, hc, rfl⟩) _ (List.mem_map.2 ⟨d, hd, rfl⟩) e
theorem one_of {s : St} (h : Inv s) {c d : C} (hc : c ∈ s.all) (hd : d ∈ s.all) (e : c.id = d.id) : c = d := by
  have h1 := fnd_of h.nd hc
  have h2 := fnd_of h.nd hd
  rw [e, h2] at h1; cases h1; rfl
theorem take_found {s : St} (h : Inv s) {c : C} (hc : c ∈ s.free) : Inv { s with busy := s.busy ++ [c], free := but c.id s.free } := by
  have hp : (s.busy ++ [c] ++ but c.id s.free).Perm s.all := by
    rw [List.append_assoc]
    exact (List.Perm.append_left _ (but_perm (nd_free h) hc).symm)
  refine ⟨(all_perm hp).2 h.nd, fun d hd => h.pos d (hp.subset hd), fun d hd => h.sn d (hp.subset hd), h.m, h.w, fun e => ?_⟩
  have h1 := h.tot e
  have h2 := of_but (nd_free h) hc e
  show (of (s.busy ++ [c]) e + of (but c.id s.free) e + kof s.kept e : Int) ≤ s.most
  rw [of_append, of_one]
  omega
theorem take_inv {s : St} (h : Inv s) (e : ByteArray) : Inv (take s e).2 := by
  unfold take
  split
  · rename_i c hc
    exact take_found h (lastOf_mem hc).1
  · rename_i hc
    split
    · exact h
    · rename_i hlt
      refine ⟨h.nd, h.pos, h.sn, h.m, h.w, fun f => ?_⟩
      have h1 := h.tot f
      show (of s.busy f + of s.free f + kof (s.kept ++ [e]) f : Int) ≤ s.most
      rw [kof_append, kof_one]
      by_cases hf : e = f
      · subst hf
        have : of s.free e = 0 := List.countP_eq_zero.2 (fun c hc' => by simpa using lastOf_none hc c hc')
        rw [if_pos rfl, this]
        omega
      · rw [if_neg hf]; omega
theorem dial_inv {s : St} (h : Inv s) (e : ByteArray) (i : Int) (hi : i ≤ 9223372036854775807) : Inv (dial s e i).2 := by
  unfold dial
  split
  · exact h
  · rename_i hc
    simp only [not_or] at hc
    obtain ⟨h1, h2, h3⟩ := hc
    have hp : (s.busy ++ [⟨i, e, 0⟩] ++ s.free : List C).Perm (⟨i, e, 0⟩ :: s.all) := by
      rw [List.append_assoc]
      exact List.perm_middle
    have hm : ∀ d ∈ (s.busy ++ [⟨i, e, 0⟩] ++ s.free : List C), d = ⟨i, e, 0⟩ ∨ d ∈ s.all := fun d hd => List.mem_cons.1 (hp.subset hd)
    refine ⟨(all_perm hp).2 ?_, fun d hd => ?_, fun d hd => ?_, h.m, h.w, fun f => ?_⟩
    · rw [List.map_cons, List.nodup_cons]
      exact ⟨fun hd => by obtain ⟨d, hd, he⟩ := List.mem_map.1 hd; exact h3 ⟨d, hd, he⟩, h.nd⟩
    · rcases hm d hd with rfl | hd
      · exact ⟨by show 0 ≤ i; omega, hi⟩
      · exact h.pos d hd
    · rcases hm d hd with rfl | hd
      · exact ⟨by show (-9223372036854775808 : Int) ≤ 0; omega, by show (0 : Int) ≤ 9223372036854775807; omega⟩
      · exact h.sn d hd
    · have h4 := h.tot f
      have h5 := kof_unk e s.kept h1 f
      show (of (s.busy ++ [⟨i, e, 0⟩]) f + of s.free f + kof (unk e s.kept) f : Int) ≤ s.most
      rw [of_append, of_one]
      show (((of s.busy f + if e = f then 1 else 0 : Nat) : Int) + of s.free f + kof (unk e s.kept) f : Int) ≤ s.most
      omega
theorem fail_inv {s : St} (h : Inv s) (e : ByteArray) : Inv (fail s e).2 := by
  unfold fail
  split
  · exact h
  · rename_i hc
    refine ⟨h.nd, h.pos, h.sn, h.m, h.w, fun f => ?_⟩
    have h4 := h.tot f
    have h5 := kof_unk e s.kept hc f
    show (of s.busy f + of s.free f + kof (unk e s.kept) f : Int) ≤ s.most
    omega
theorem put_inv {s : St} (h : Inv s) (i now : Int) (hn : -9223372036854775808 ≤ now ∧ now ≤ 9223372036854775807) : Inv (put s i now).2 := by
  unfold put
  split
  · rename_i c hc
    obtain ⟨hcm, rfl⟩ := fnd_some hc
    have hb := but_perm (nd_busy h) hcm
    have hp : ((but c.id s.busy ++ (s.free ++ [{ c with since := now }])).map C.id).Perm (s.all.map C.id) := by
      have e1 : ((but c.id s.busy ++ (s.free ++ [{ c with since := now }])).map C.id) = (but c.id s.busy ++ (s.free ++ [c])).map C.id := by simp
      rw [e1]
      refine List.Perm.map _ ?_
      rw [← List.append_assoc]
      refine List.perm_append_comm.trans ?_
      rw [← List.append_assoc]
      exact List.Perm.append_right _ (by simpa using hb.symm)
    have hm : ∀ d ∈ (but c.id s.busy ++ (s.free ++ [{ c with since := now }])), d ∈ s.all ∨ d = { c with since := now } := fun d hd => by
      simp only [List.mem_append, List.mem_singleton] at hd
      rcases hd with hd | hd | hd
      · exact .inl (List.mem_append_left _ (mem_but.1 hd).1)
      · exact .inl (List.mem_append_right _ hd)
      · exact .inr hd
    refine ⟨hp.nodup_iff.2 h.nd, fun d hd => ?_, fun d hd => ?_, h.m, h.w, fun e => ?_⟩
    · rcases hm d hd with hd | rfl
      · exact h.pos d hd
      · exact h.pos c (List.mem_append_left _ hcm)
    · rcases hm d hd with hd | rfl
      · exact h.sn d hd
      · exact hn
    · have h1 := h.tot e
      have h2 := of_but (nd_busy h) hcm e
      show (of (but c.id s.busy) e + of (s.free ++ [{ c with since := now }]) e + kof s.kept e : Int) ≤ s.most
      rw [of_append, of_one]
      show ((of (but c.id s.busy) e : Int) + ((of s.free e + if c.ep = e then 1 else 0 : Nat) : Int) + kof s.kept e : Int) ≤ s.most
      omega
  · exact h
theorem sub_inv {s : St} (h : Inv s) {b f : List C} (hb : b.Sublist s.busy) (hf : f.Sublist s.free) : Inv { s with busy := b, free := f } := by
  have hs : (b ++ f).Sublist s.all := hb.append hf
  refine ⟨(hs.map _).nodup h.nd, fun d hd => h.pos d (hs.subset hd), fun d hd => h.sn d (hs.subset hd), h.m, h.w, fun e => ?_⟩
  have h1 := h.tot e
  have h2 : of b e ≤ of s.busy e := hb.countP_le
  have h3 : of f e ≤ of s.free e := hf.countP_le
  show (of b e + of f e + kof s.kept e : Int) ≤ s.most
  omega
theorem poison_inv {s : St} (h : Inv s) (i : Int) : Inv (poison s i).2 := by
  unfold poison
  split
  · exact sub_inv h List.filter_sublist (List.Sublist.refl _)
  · split
    · exact sub_inv h (List.Sublist.refl _) List.filter_sublist
    · exact h
theorem expire_inv {s : St} (h : Inv s) (now : Int) : Inv (expire s now).2 := sub_inv h (List.Sublist.refl _) List.filter_sublist
end Go.Po
