/- The walks of the document's put and drop. -/
import Derived.Test.YtjepgpocmnijiaaZb20
import Derived.Test.YtjepgpocmnijiaaZb17
import Derived.Test.YtjepgpocmnijiaaZb19
section
/- Resources in order: no two have one key. What is wrong with a configuration, in plain words. -/
namespace Go.Ck
set_option linter.unusedVariables false
theorem bl_irrefl : ∀ a : List UInt8, Op.bytesLess a a = false
  | [] => rfl
  | x :: xs => by simp [Op.bytesLess, bl_irrefl xs]
theorem bl_trans : ∀ a b c : List UInt8, Op.bytesLess a b = true → Op.bytesLess b c = true → Op.bytesLess a c = true
  | _, _, [], _, h2 => by cases ‹List UInt8› <;> simp [Op.bytesLess] at h2
  | [], [], _ :: _, h1, _ => by simp [Op.bytesLess] at h1
  | [], _ :: _, _ :: _, _, _ => rfl
  | x :: xs, [], _ :: _, h1, _ => by simp [Op.bytesLess] at h1
  | x :: xs, y :: ys, z :: zs, h1, h2 => by
    simp only [Op.bytesLess, Bool.or_eq_true, decide_eq_true_eq, Bool.and_eq_true, beq_iff_eq] at h1 h2 ⊢
    rcases h1 with h1 | ⟨e1, h1⟩ <;> rcases h2 with h2 | ⟨e2, h2⟩
    · exact .inl (UInt8.lt_trans h1 h2)
    · subst e2; exact .inl h1
    · subst e1; exact .inl h2
    · subst e1; subst e2; exact .inr ⟨rfl, bl_trans xs ys zs h1 h2⟩
theorem less_iff {a b : Res} : less a b = true ↔ a.kind < b.kind ∨ a.kind = b.kind ∧ Op.bytesLess a.name.toList b.name.toList = true := by
  unfold less slt
  simp only [Bool.or_eq_true, decide_eq_true_eq, Bool.and_eq_true, beq_iff_eq]
theorem less_trans {a b c : Res} (h1 : less a b = true) (h2 : less b c = true) : less a c = true := by
  rw [less_iff] at *
  rcases h1 with h1 | ⟨e1, h1⟩ <;> rcases h2 with h2 | ⟨e2, h2⟩
  · exact .inl (by omega)
  · exact .inl (by omega)
  · exact .inl (by omega)
  · exact .inr ⟨by omega, bl_trans _ _ _ h1 h2⟩
theorem less_key {a b : Res} (h : less a b = true) : ¬ (a.kind = b.kind ∧ a.name = b.name) := fun ⟨e1, e2⟩ => by
  rw [less_iff, e1, e2, bl_irrefl] at h
  rcases h with h | ⟨_, h⟩
  · omega
  · cases h
/-- All that 'in order' says. -/
structure Ord (l : List Res) : Prop where
  kind : ∀ r ∈ l, 1 ≤ r.kind ∧ r.kind ≤ 4 ∧ r.del = false
  next : ∀ (i : Nat) (a b : Res), l[i]? = some a → l[i + 1]? = some b → less a b = true
theorem ord_of {l : List Res} (h : outI l < 0) : Ord l := by
  unfold outI at h
  rcases firstN_cases l.length (badIx l) with ⟨_, hno⟩ | ⟨i, _, e, _⟩
  · refine ⟨fun r hr => ?_, fun i a b ha hb => ?_⟩
    · obtain ⟨i, hi⟩ := List.mem_iff_getElem?.1 hr
      have h1 := hno i (List.getElem?_eq_some_iff.1 hi).1
      rw [badIx_at hi] at h1
      unfold badAt at h1
      simp only [Bool.or_eq_false_iff, decide_eq_false_iff_not] at h1
      obtain ⟨⟨⟨h1, h2⟩, h3⟩, _⟩ := h1
      exact ⟨by omega, by omega, h3⟩
    · have h1 := hno (i + 1) (List.getElem?_eq_some_iff.1 hb).1
      rw [badIx_at hb] at h1
      unfold badAt at h1
      simp only [Bool.or_eq_false_iff, decide_eq_false_iff_not] at h1
      obtain ⟨_, h2⟩ := h1
      rw [Nat.add_sub_cancel, ha] at h2
      simpa using h2
  · rw [e] at h; omega
theorem Ord.lt {l : List Res} (h : Ord l) {i : Nat} {a : Res} (ha : l[i]? = some a) : ∀ (d : Nat) (b : Res), l[i + d + 1]? = some b → less a b = true
  | 0, b, hb => h.next i a b ha hb
  | d + 1, b, hb => by
    have hlt := (List.getElem?_eq_some_iff.1 hb).1
    obtain ⟨c, hc⟩ : ∃ c, l[i + d + 1]? = some c := ⟨_, List.getElem?_eq_getElem (by omega)⟩
    exact less_trans (h.lt ha d c hc) (h.next _ c b hc hb)
theorem Ord.inj {l : List Res} (h : Ord l) {i j : Nat} {a b : Res} (ha : l[i]? = some a) (hb : l[j]? = some b) (hk : a.kind = b.kind) (hn : a.name = b.name) : i = j := by
  rcases Nat.lt_trichotomy i j with h1 | h1 | h1
  · have := h.lt ha (j - i - 1) b (by rw [show i + (j - i - 1) + 1 = j by omega]; exact hb)
    exact absurd ⟨hk, hn⟩ (less_key this)
  · exact h1
  · have := h.lt hb (i - j - 1) a (by rw [show j + (i - j - 1) + 1 = i by omega]; exact ha)
    exact absurd ⟨hk.symm, hn.symm⟩ (less_key this)
theorem Ord.find {l : List Res} (h : Ord l) {r : Res} (hr : r ∈ l) : l.find? (isK r.kind r.name) = some r := by
  cases hf : l.find? (isK r.kind r.name) with
  | none =>
    rw [List.find?_eq_none] at hf
    have := hf r hr
    unfold isK at this
    simp [seq_iff] at this
  | some x =>
    have h1 := List.find?_some hf
    have h2 := List.mem_of_find?_eq_some hf
    unfold isK at h1
    rw [Bool.and_eq_true, beq_iff_eq, seq_iff] at h1
    obtain ⟨i, hi⟩ := List.mem_iff_getElem?.1 hr
    obtain ⟨j, hj⟩ := List.mem_iff_getElem?.1 h2
    have := h.inj hj hi h1.1 h1.2
    subst this
    rw [hi] at hj
    rw [Option.some.inj hj]
theorem Ord.uniq {l : List Res} (h : Ord l) : Uniq l := fun i r hi hk => by
  unfold tgtsOf
  have := h.find (List.mem_of_getElem? hi)
  rw [hk] at this
  rw [this]
/-! ### what is wrong -/
def dangAt (l : List Res) (i : Int) : Int := match l[i.toNat]? with
  | some r => dangI l r
  | none => 0
abbrev Flt := Int × Int × Int
def faultP (l : List Res) : Flt :=
  if 0 ≤ outI l then (outI l, 0, 2)
  else if 64 < l.length then (0, 0, 124)
  else if 0 ≤ firstN l.length (dangIx l) then (firstN l.length (dangIx l), dangAt l (firstN l.length (dangIx l)), 140)
  else if 0 ≤ firstN l.length (twiceIx l) then (firstN l.length (twiceIx l), 0, 141)
  else if 0 ≤ firstN l.length (heavyIx l) then (firstN l.length (heavyIx l), 0, 142)
  else if 0 ≤ firstN l.length (ringIx l) then (firstN l.length (ringIx l), 0, 143)
  else (0, 0, 0)
def warnP (l : List Res) : List Warn := if (faultP l).2.2 = 0 then shadowL l l.length else []
/-- The ways of a check, told one by one. -/
inductive Chk (l : List Res) : Flt → List Warn → Prop
  | out : 0 ≤ outI l → Chk l (outI l, 0, 2) []
  | count : outI l < 0 → 64 < l.length → Chk l (0, 0, 124) []
  | dang {i : Nat} {r : Res} : outI l < 0 → l.length ≤ 64 → (∀ j, j < i → dangIx l j = false) → l[i]? = some r → 0 ≤ dangI l r → Chk l ((i : Int), dangI l r, 140) []
  | twice {i : Nat} : outI l < 0 → l.length ≤ 64 → (∀ j, j < l.length → dangIx l j = false) → (∀ j, j < i → twiceIx l j = false) → i < l.length → twiceIx l i = true → Chk l ((i : Int), 0, 141) []
  | heavy {i : Nat} : outI l < 0 → l.length ≤ 64 → (∀ j, j < l.length → dangIx l j = false) → (∀ j, j < l.length → twiceIx l j = false) → (∀ j, j < i → heavyIx l j = false) → i < l.length → heavyIx l i = true → Chk l ((i : Int), 0, 142) []
  | ring {i : Nat} : outI l < 0 → l.length ≤ 64 → (∀ j, j < l.length → dangIx l j = false) → (∀ j, j < l.length → twiceIx l j = false) → (∀ j, j < l.length → heavyIx l j = false) → (∀ j, j < i → ringIx l j = false) → i < l.length → ringIx l i = true → Chk l ((i : Int), 0, 143) []
  | fine : outI l < 0 → l.length ≤ 64 → (∀ j, j < l.length → dangIx l j = false) → (∀ j, j < l.length → twiceIx l j = false) → (∀ j, j < l.length → heavyIx l j = false) → (∀ j, j < l.length → ringIx l j = false) → Chk l (0, 0, 0) (shadowL l l.length)
theorem Chk.eq {l : List Res} {f : Flt} {ws : List Warn} (h : Chk l f ws) : f = faultP l ∧ ws = warnP l := by
  have key : f = faultP l → ((faultP l).2.2 = 0 → ws = shadowL l l.length) → ((faultP l).2.2 ≠ 0 → ws = []) → f = faultP l ∧ ws = warnP l := fun h1 h2 h3 => by
    refine ⟨h1, ?_⟩
    unfold warnP
    split
    · exact h2 ‹_›
    · exact h3 ‹_›
  cases h with
  | out h1 =>
    have e : faultP l = (outI l, 0, 2) := by unfold faultP; rw [if_pos h1]
    exact key e.symm (fun h => by rw [e] at h; cases h) (fun _ => rfl)
  | count h1 h2 =>
    have e : faultP l = (0, 0, 124) := by unfold faultP; rw [if_neg (by omega), if_pos h2]
    exact key e.symm (fun h => by rw [e] at h; cases h) (fun _ => rfl)
  | @dang i r h1 h2 h3 h4 h5 =>
    have hi := (List.getElem?_eq_some_iff.1 h4).1
    have e1 := firstN_at h3 hi (by rw [dangIx_at h4]; exact decide_eq_true h5)
    have e : faultP l = ((i : Int), dangI l r, 140) := by
      unfold faultP
      rw [if_neg (by omega), if_neg (by omega), e1, if_pos (by omega)]
      unfold dangAt
      rw [Int.toNat_natCast, h4]
    exact key e.symm (fun h => by rw [e] at h; cases h) (fun _ => rfl)
  | @twice i h1 h2 h3 h4 h5 h6 =>
    have e1 := firstN_at h4 h5 h6
    have e : faultP l = ((i : Int), 0, 141) := by
      unfold faultP
      rw [if_neg (by omega), if_neg (by omega), firstN_none h3, if_neg (by omega), e1, if_pos (by omega)]
    exact key e.symm (fun h => by rw [e] at h; cases h) (fun _ => rfl)
  | @heavy i h1 h2 h3 h4 h5 h6 h7 =>
    have e1 := firstN_at h5 h6 h7
    have e : faultP l = ((i : Int), 0, 142) := by
      unfold faultP
      rw [if_neg (by omega), if_neg (by omega), firstN_none h3, if_neg (by omega), firstN_none h4, if_neg (by omega), e1, if_pos (by omega)]
    exact key e.symm (fun h => by rw [e] at h; cases h) (fun _ => rfl)
  | @ring i h1 h2 h3 h4 h5 h6 h7 h8 =>
    have e1 := firstN_at h6 h7 h8
    have e : faultP l = ((i : Int), 0, 143) := by
      unfold faultP
      rw [if_neg (by omega), if_neg (by omega), firstN_none h3, if_neg (by omega), firstN_none h4, if_neg (by omega), firstN_none h5, if_neg (by omega), e1, if_pos (by omega)]
    exact key e.symm (fun h => by rw [e] at h; cases h) (fun _ => rfl)
  | fine h1 h2 h3 h4 h5 h6 =>
    have e : faultP l = (0, 0, 0) := by
      unfold faultP
      rw [if_neg (by omega), if_neg (by omega), firstN_none h3, if_neg (by omega), firstN_none h4, if_neg (by omega), firstN_none h5, if_neg (by omega), firstN_none h6, if_neg (by omega)]
    exact key e.symm (fun _ => rfl) (fun h => absurd (by rw [e]) h)
end Go.Ck
end

section
/- Lists in order of their keys: what is put in, dropped, merged, told apart: in plain words. -/
namespace Go.Ck
set_option linter.unusedVariables false
open Go.Proofs.Ytjepgpocmnijiaa (Key)
def rk (r : Res) : Key := (r.kind, r.name)
def lessK (a b : Key) : Bool := decide (a.1 < b.1) || (a.1 == b.1 && slt a.2 b.2)
theorem less_eq (a b : Res) : less a b = lessK (rk a) (rk b) := rfl
theorem lessK_iff {a b : Key} : lessK a b = true ↔ a.1 < b.1 ∨ a.1 = b.1 ∧ Op.bytesLess a.2.toList b.2.toList = true := by
  unfold lessK slt
  simp only [Bool.or_eq_true, decide_eq_true_eq, Bool.and_eq_true, beq_iff_eq]
theorem lessK_trans {a b c : Key} (h1 : lessK a b = true) (h2 : lessK b c = true) : lessK a c = true := by
  rw [lessK_iff] at *
  rcases h1 with h1 | ⟨e1, h1⟩ <;> rcases h2 with h2 | ⟨e2, h2⟩
  · exact .inl (by omega)
  · exact .inl (by omega)
  · exact .inl (by omega)
  · exact .inr ⟨by omega, bl_trans _ _ _ h1 h2⟩
theorem lessK_irrefl (a : Key) : lessK a a = false := by
  cases h : lessK a a with
  | false => rfl
  | true =>
    rw [lessK_iff, bl_irrefl] at h
    rcases h with h | ⟨_, h⟩
    · omega
    · cases h
theorem bl_total : ∀ a b : List UInt8, Op.bytesLess a b = false → Op.bytesLess b a = false → a = b
  | [], [], _, _ => rfl
  | [], _ :: _, h, _ => by simp [Op.bytesLess] at h
  | _ :: _, [], _, h => by simp [Op.bytesLess] at h
  | x :: xs, y :: ys, h1, h2 => by
    simp only [Op.bytesLess, Bool.or_eq_false_iff, decide_eq_false_iff_not, Bool.and_eq_false_iff, beq_eq_false_iff_ne, ne_eq] at h1 h2
    obtain ⟨a1, a2⟩ := h1
    obtain ⟨b1, b2⟩ := h2
    have e : x = y := UInt8.le_antisymm (UInt8.not_lt.1 b1) (UInt8.not_lt.1 a1)
    subst e
    rw [bl_total xs ys (a2.resolve_left (fun h => h rfl)) (b2.resolve_left (fun h => h rfl))]
theorem lessK_total {a b : Key} (h1 : lessK a b = false) (h2 : lessK b a = false) : a = b := by
  obtain ⟨k, s⟩ := a
  obtain ⟨m, t⟩ := b
  unfold lessK slt at h1 h2
  simp only [Bool.or_eq_false_iff, decide_eq_false_iff_not, Bool.and_eq_false_iff, beq_eq_false_iff_ne, ne_eq] at h1 h2
  have e : k = m := by omega
  subst e
  rw [Go.Mp.bytes_of_toList (bl_total _ _ (h1.2.resolve_left (fun h => h rfl)) (h2.2.resolve_left (fun h => h rfl)))]
theorem lessK_tri (a b : Key) : a = b ∨ lessK a b = true ∨ lessK b a = true := by
  cases h1 : lessK a b with
  | true => exact .inr (.inl rfl)
  | false => cases h2 : lessK b a with
    | true => exact .inr (.inr rfl)
    | false => exact .inl (lessK_total h1 h2)
theorem lessK_ne {a b : Key} (h : lessK a b = true) : a ≠ b := fun e => by rw [e, lessK_irrefl] at h; cases h
/-- In order: no two have one key. -/
def Srt (l : List Res) : Prop := l.Pairwise fun a b => lessK (rk a) (rk b) = true
def fnd (l : List Res) (k : Key) : Option Res := l.find? fun r => decide (rk r = k)
theorem fnd_nil (k : Key) : fnd [] k = none := rfl
theorem fnd_cons (x : Res) (l : List Res) (k : Key) : fnd (x :: l) k = if rk x = k then some x else fnd l k := by
  unfold fnd
  rw [List.find?_cons]
  by_cases h : rk x = k
  · rw [if_pos h]; simp [h]
  · rw [if_neg h]; simp [h]
theorem fnd_some {l : List Res} {k : Key} {r : Res} (h : fnd l k = some r) : rk r = k ∧ r ∈ l := ⟨by simpa using List.find?_some h, List.mem_of_find?_eq_some h⟩
theorem fnd_none {l : List Res} {k : Key} : fnd l k = none ↔ ∀ r ∈ l, rk r ≠ k := by
  unfold fnd
  rw [List.find?_eq_none]
  simp
theorem fnd_append (a b : List Res) (k : Key) : fnd (a ++ b) k = (fnd a k).or (fnd b k) := by
  unfold fnd
  rw [List.find?_append]
theorem rk_isK (k : Key) (r : Res) : isK k.1 k.2 r = decide (rk r = k) := by
  unfold isK rk
  rw [seq_decide, Bool.eq_iff_iff, Bool.and_eq_true, beq_iff_eq, decide_eq_true_iff, decide_eq_true_iff]
  exact ⟨fun h => by obtain ⟨a, b⟩ := k; exact Prod.ext h.1 h.2, fun h => by rw [← h]; exact ⟨rfl, rfl⟩⟩
theorem fnd_isK (l : List Res) (k : Key) : l.find? (isK k.1 k.2) = fnd l k := by
  unfold fnd
  rw [show isK k.1 k.2 = fun r => decide (rk r = k) from funext (rk_isK k)]
theorem findI_cases (l : List Res) (k : Key) : (findI l k.1 k.2 = -1 ∧ fnd l k = none) ∨ ∃ (i : Nat) (x : Res), findI l k.1 k.2 = i ∧ i < l.length ∧ l[i]? = some x ∧ rk x = k ∧ fnd l k = some x ∧ fnd (l.take i) k = none := by
  unfold findI
  rcases firstN_cases l.length (findIx l k.1 k.2) with ⟨e, h⟩ | ⟨i, hi, e, h1, h2⟩
  · refine .inl ⟨e, fnd_none.2 fun r hr hk => ?_⟩
    obtain ⟨i, hi⟩ := List.mem_iff_getElem?.1 hr
    have h3 := h i (List.getElem?_eq_some_iff.1 hi).1
    rw [findIx_at hi, rk_isK, decide_eq_false_iff_not] at h3
    exact h3 hk
  · have hx : l[i]? = some l[i] := List.getElem?_eq_getElem hi
    rw [findIx_at hx, rk_isK, decide_eq_true_iff] at h1
    have h3 : fnd (l.take i) k = none := fnd_none.2 fun r hr hk => by
      obtain ⟨j, hj⟩ := List.mem_iff_getElem?.1 hr
      have hji : j < i := by have := (List.getElem?_eq_some_iff.1 hj).1; rw [List.length_take] at this; omega
      rw [List.getElem?_take_of_lt hji] at hj
      have h4 := h2 j hji
      rw [findIx_at hj, rk_isK, decide_eq_false_iff_not] at h4
      exact h4 hk
    refine .inr ⟨i, l[i], e, hi, hx, h1, ?_, h3⟩
    have e1 : l = l.take i ++ l[i] :: l.drop (i + 1) := by rw [List.getElem_cons_drop, List.take_append_drop]
    have e2 : fnd l k = fnd (l.take i ++ l[i] :: l.drop (i + 1)) k := by rw [← e1]
    rw [e2, fnd_append, h3, fnd_cons, if_pos h1]; rfl
theorem fnd_take_succ {l : List Res} {i : Nat} {x : Res} (hx : l[i]? = some x) (k : Key) : fnd (l.take (i + 1)) k = (fnd (l.take i) k).or (if rk x = k then some x else none) := by
  have hi := (List.getElem?_eq_some_iff.1 hx).1
  have e : l.take (i + 1) = l.take i ++ [x] := by rw [List.take_add_one, hx]; rfl
  rw [e, fnd_append, fnd_cons, fnd_nil]
theorem Srt.tail {x : Res} {l : List Res} (h : Srt (x :: l)) : Srt l := (List.pairwise_cons.1 h).2
theorem Srt.head {x : Res} {l : List Res} (h : Srt (x :: l)) : ∀ y ∈ l, lessK (rk x) (rk y) = true := (List.pairwise_cons.1 h).1
theorem Srt.none_head {x : Res} {l : List Res} (h : Srt (x :: l)) : fnd l (rk x) = none := fnd_none.2 fun r hr e => lessK_ne (h.head r hr) e.symm
theorem Srt.fnd_mem : ∀ {l : List Res}, Srt l → ∀ {r : Res}, r ∈ l → fnd l (rk r) = some r
  | [], _, r, h => by cases h
  | x :: l, h, r, hr => by
    rw [fnd_cons]
    rcases List.mem_cons.1 hr with rfl | hr
    · rw [if_pos rfl]
    · rw [if_neg (lessK_ne (h.head r hr))]; exact h.tail.fnd_mem hr
theorem Srt.ext : ∀ {a b : List Res}, Srt a → Srt b → (∀ k, fnd a k = fnd b k) → a = b
  | [], [], _, _, _ => rfl
  | [], y :: b, _, _, h => by have := h (rk y); rw [fnd_nil, fnd_cons, if_pos rfl] at this; cases this
  | x :: a, [], _, _, h => by have := h (rk x); rw [fnd_nil, fnd_cons, if_pos rfl] at this; cases this
  | x :: a, y :: b, ha, hb, h => by
    have hxy : x = y := by
      have h1 := h (rk x)
      rw [fnd_cons, if_pos rfl, fnd_cons] at h1
      by_cases e : rk y = rk x
      · rw [if_pos e] at h1; exact Option.some.inj h1
      · rw [if_neg e] at h1
        have h2 := h (rk y)
        rw [fnd_cons, if_neg (fun q => e q.symm), fnd_cons, if_pos rfl] at h2
        have l1 := hb.head x (fnd_some h1.symm).2
        have l2 := ha.head y (fnd_some h2).2
        have := lessK_trans l1 l2
        rw [lessK_irrefl] at this; cases this
    subst hxy
    rw [Srt.ext ha.tail hb.tail fun k => ?_]
    have h1 := h k
    rw [fnd_cons, fnd_cons] at h1
    by_cases e : rk x = k
    · subst e; rw [ha.none_head, hb.none_head]
    · rw [if_neg e, if_neg e] at h1; exact h1
/-! ### put -/
/-- How many of a list stand ahead of r. -/
def putN (l : List Res) (r : Res) : Nat := (l.takeWhile fun x => less x r).length
def putL (l : List Res) (r : Res) : List Res := l.take (putN l r) ++ r :: l.drop (putN l r)
theorem putN_le (l : List Res) (r : Res) : putN l r ≤ l.length := by
  unfold putN
  induction l with
  | nil => simp
  | cons x l ih =>
    rw [List.takeWhile_cons]
    split
    · simp only [List.length_cons]; omega
    · simp
theorem putN_at : ∀ {l : List Res} {r : Res} {i : Nat}, (∀ (j : Nat) x, j < i → l[j]? = some x → less x r = true) → (i = l.length ∨ ∃ x, l[i]? = some x ∧ less x r = false) → i ≤ l.length → putN l r = i
  | [], r, i, _, _, h => by have : i = 0 := by simpa using h
                            subst this; rfl
  | x :: l, r, 0, _, h2, _ => by
    rcases h2 with h2 | ⟨y, hy, hn⟩
    · simp at h2
    · simp only [List.getElem?_cons_zero, Option.some.injEq] at hy
      subst hy
      unfold putN
      rw [List.takeWhile_cons, if_neg (by rw [hn]; simp)]; rfl
  | x :: l, r, i + 1, h1, h2, h3 => by
    have h0 := h1 0 x (by omega) rfl
    have ih := putN_at (l := l) (r := r) (i := i) (fun j y hj hy => h1 (j + 1) y (by omega) (by simpa using hy))
      (by rcases h2 with h2 | ⟨y, hy, hn⟩
          · left; simpa using h2
          · right; exact ⟨y, by simpa using hy, hn⟩) (by simpa using h3)
    unfold putN at ih ⊢
    rw [List.takeWhile_cons, if_pos h0, List.length_cons, ih]
theorem putL_len (l : List Res) (r : Res) : (putL l r).length = l.length + 1 := by
  have := putN_le l r
  unfold putL
  rw [List.length_append, List.length_cons, List.length_take, List.length_drop]; omega
theorem putL_nil (r : Res) : putL [] r = [r] := rfl
theorem putL_cons (x : Res) (l : List Res) (r : Res) : putL (x :: l) r = if less x r = true then x :: putL l r else r :: x :: l := by
  unfold putL putN
  rw [List.takeWhile_cons]
  split
  · simp
  · simp
theorem putL_fnd (k : Key) : ∀ {l : List Res} {r : Res}, fnd l (rk r) = none → fnd (putL l r) k = if rk r = k then some r else fnd l k
  | [], r, _ => by rw [putL_nil, fnd_cons]
  | x :: l, r, hn => by
    rw [putL_cons]
    have h1 : rk x ≠ rk r := fnd_none.1 hn x (.head _)
    have h2 : fnd l (rk r) = none := fnd_none.2 fun y hy => fnd_none.1 hn y (.tail _ hy)
    split
    · rw [fnd_cons, fnd_cons, putL_fnd k h2]
      by_cases e : rk x = k
      · rw [if_pos e, if_pos e, if_neg (fun q => h1 (e.trans q.symm))]
      · rw [if_neg e, if_neg e]
    · rw [fnd_cons]
theorem putL_mem {l : List Res} {r x : Res} (h : x ∈ putL l r) : x = r ∨ x ∈ l := by
  unfold putL at h
  rcases List.mem_append.1 h with h | h
  · exact .inr (List.mem_of_mem_take h)
  · rcases List.mem_cons.1 h with h | h
    · exact .inl h
    · exact .inr (List.mem_of_mem_drop h)
theorem putL_srt : ∀ {l : List Res} {r : Res}, Srt l → fnd l (rk r) = none → Srt (putL l r)
  | [], r, _, _ => by rw [putL_nil]; exact List.pairwise_singleton _ _
  | x :: l, r, h, hn => by
    rw [putL_cons]
    have h1 : rk x ≠ rk r := fnd_none.1 hn x (.head _)
    have h2 : fnd l (rk r) = none := fnd_none.2 fun y hy => fnd_none.1 hn y (.tail _ hy)
    split
    · rename_i hl
      rw [less_eq] at hl
      refine List.pairwise_cons.2 ⟨fun y hy => ?_, putL_srt h.tail h2⟩
      rcases putL_mem hy with rfl | hy
      · exact hl
      · exact h.head y hy
    · rename_i hl
      rw [less_eq] at hl
      have hr : lessK (rk r) (rk x) = true := by
        rcases lessK_tri (rk r) (rk x) with e | e | e
        · exact absurd e.symm h1
        · exact e
        · exact absurd e hl
      refine List.pairwise_cons.2 ⟨fun y hy => ?_, h⟩
      rcases List.mem_cons.1 hy with rfl | hy
      · exact hr
      · exact lessK_trans hr (h.head y hy)
/-! ### drop -/
def dropL (l : List Res) (i : Nat) : List Res := l.take i ++ l.drop (i + 1)
theorem dropL_sub (l : List Res) (i : Nat) : List.Sublist (dropL l i) l := by
  have h : List.Sublist (l.take i ++ l.drop (i + 1)) (l.take i ++ l.drop i) := List.Sublist.append (List.Sublist.refl _) (List.drop_sublist_drop_left l (Nat.le_succ i))
  rw [List.take_append_drop] at h
  exact h
theorem dropL_srt {l : List Res} (h : Srt l) (i : Nat) : Srt (dropL l i) := h.sublist (dropL_sub l i)
theorem dropL_len {l : List Res} {i : Nat} (hi : i < l.length) : (dropL l i).length + 1 = l.length := by
  unfold dropL
  rw [List.length_append, List.length_take, List.length_drop]; omega
theorem Srt.cut {l : List Res} (h : Srt l) {i : Nat} {x : Res} (hx : l[i]? = some x) : fnd (l.take i) (rk x) = none ∧ fnd (l.drop (i + 1)) (rk x) = none := by
  have hi := (List.getElem?_eq_some_iff.1 hx)
  obtain ⟨hi, he⟩ := hi
  have e1 : l = l.take i ++ x :: l.drop (i + 1) := by rw [← he, List.getElem_cons_drop, List.take_append_drop]
  rw [e1] at h
  obtain ⟨h1, h2, h3⟩ := List.pairwise_append.1 h
  exact ⟨fnd_none.2 fun r hr e => lessK_ne (h3 r hr x (.head _)) e, fnd_none.2 fun r hr e => lessK_ne ((List.pairwise_cons.1 h2).1 r hr) e.symm⟩
theorem dropL_fnd {l : List Res} (h : Srt l) {i : Nat} {x : Res} (hx : l[i]? = some x) (k : Key) : fnd (dropL l i) k = if rk x = k then none else fnd l k := by
  obtain ⟨h1, h2⟩ := h.cut hx
  obtain ⟨hi, he⟩ := List.getElem?_eq_some_iff.1 hx
  have e1 : fnd l k = fnd (l.take i ++ x :: l.drop (i + 1)) k := by rw [← he, List.getElem_cons_drop, List.take_append_drop]
  unfold dropL
  rw [e1, fnd_append, fnd_append, fnd_cons]
  by_cases e : rk x = k
  · subst e; rw [if_pos rfl, h1, h2]; rfl
  · rw [if_neg e, if_neg e]
/-! ### merge -/
def badKind (d : Res) : Bool := decide (d.kind < 1) || decide (4 < d.kind)
/-- What a document makes of a configuration. -/
def setD (all : List Res) (d : Res) : List Res :=
  let a := all.filter fun r => decide (rk r ≠ rk d)
  if d.del = true then a else putL a d
/-- The ways of a merge, behind i documents. -/
structure MgS (conf docs : List Res) (i : Nat) (all : List Res) : Prop where
  srt : Srt all
  ok : ∀ (j : Nat) d, j < i → docs[j]? = some d → badKind d = false ∧ fnd (docs.take j) (rk d) = none
  le : i ≤ docs.length
  from0 : all = (docs.take i).foldl setD conf
  dels : ∀ (j : Nat) d, j < i → docs[j]? = some d → d.del = true → (fnd ((docs.take j).foldl setD conf) (rk d)).isSome
theorem filter_srt {l : List Res} (h : Srt l) (p : Res → Bool) : Srt (l.filter p) := h.sublist List.filter_sublist
theorem filter_fnd (l : List Res) (d k : Key) : fnd (l.filter fun r => decide (rk r ≠ d)) k = if d = k then none else fnd l k := by
  unfold fnd
  rw [List.find?_filter]
  by_cases e : d = k
  · rw [if_pos e, List.find?_eq_none]
    intro x hx
    subst e
    by_cases hq : rk x = d <;> simp [hq]
  · rw [if_neg e]
    congr 1
    funext x
    by_cases hk : rk x = k
    · have : rk x ≠ d := fun q => e (q.symm.trans hk)
      simp [hk]; exact fun q => e q.symm
    · simp [hk]
theorem setD_srt {all : List Res} (h : Srt all) (d : Res) : Srt (setD all d) := by
  unfold setD
  split
  · exact filter_srt h _
  · exact putL_srt (filter_srt h _) (by rw [filter_fnd, if_pos rfl])
theorem setD_fnd {all : List Res} (d : Res) (k : Key) : fnd (setD all d) k = if rk d = k then (if d.del = true then none else some d) else fnd all k := by
  unfold setD
  split
  · rw [filter_fnd]
  · rw [putL_fnd k (by rw [filter_fnd, if_pos rfl]), filter_fnd]
    by_cases e : rk d = k
    · rw [if_pos e, if_pos e]
    · rw [if_neg e, if_neg e]; rw [if_neg e]
theorem srt_of_ord {l : List Res} (h : Ord l) : Srt l := by
  unfold Srt
  rw [List.pairwise_iff_getElem]
  intro i j hi hj hij
  have := h.lt (List.getElem?_eq_getElem hi) (j - i - 1) l[j] (by rw [show i + (j - i - 1) + 1 = j by omega]; exact List.getElem?_eq_getElem hj)
  rwa [less_eq] at this
theorem MgS.zero {conf docs : List Res} (h : Srt conf) : MgS conf docs 0 conf := ⟨h, fun _ _ h => absurd h (Nat.not_lt_zero _), Nat.zero_le _, by simp, fun _ _ h => absurd h (Nat.not_lt_zero _)⟩
theorem MgS.succ {conf docs : List Res} {i : Nat} {all : List Res} (h : MgS conf docs i all) {d : Res} (hd : docs[i]? = some d) (h1 : badKind d = false) (h2 : fnd (docs.take i) (rk d) = none) (h3 : d.del = true → (fnd all (rk d)).isSome) : MgS conf docs (i + 1) (setD all d) := by
  have hi := (List.getElem?_eq_some_iff.1 hd).1
  refine ⟨setD_srt h.srt d, fun j x hj hx => ?_, hi, ?_, fun j x hj hx hdl => ?_⟩
  · rcases Nat.lt_succ_iff_lt_or_eq.1 hj with q | q
    · exact h.ok j x q hx
    · subst q; rw [hd] at hx; cases hx; exact ⟨h1, h2⟩
  · rw [List.take_add_one, hd, List.foldl_append, ← h.from0]; rfl
  · rcases Nat.lt_succ_iff_lt_or_eq.1 hj with q | q
    · exact h.dels j x q hx hdl
    · subst q; rw [hd] at hx; cases hx; rw [← h.from0]; exact h3 hdl
/-- How a merge ends: the list, the place, the fault. -/
inductive MgE (conf docs : List Res) : List Res → Int → Int → Prop
  | out : 0 ≤ outI conf → MgE conf docs [] 0 2
  | kind {i : Nat} {all : List Res} {d : Res} : outI conf < 0 → MgS conf docs i all → docs[i]? = some d → badKind d = true → MgE conf docs [] i 2
  | twice {i : Nat} {all : List Res} {d : Res} : outI conf < 0 → MgS conf docs i all → docs[i]? = some d → badKind d = false → (fnd (docs.take i) (rk d)).isSome → MgE conf docs [] i 91
  | del {i : Nat} {all : List Res} {d : Res} : outI conf < 0 → MgS conf docs i all → docs[i]? = some d → badKind d = false → fnd (docs.take i) (rk d) = none → d.del = true → fnd all (rk d) = none → MgE conf docs [] i 290
  | count {all : List Res} : outI conf < 0 → MgS conf docs docs.length all → 64 < all.length → MgE conf docs [] 0 124
  | fine {all : List Res} : outI conf < 0 → MgS conf docs docs.length all → all.length ≤ 64 → MgE conf docs all 0 0
def badD (conf docs : List Res) (i : Nat) : Option Int := match docs[i]? with
  | none => none
  | some d => if badKind d = true then some 2 else if (fnd (docs.take i) (rk d)).isSome then some 91 else if d.del = true ∧ fnd ((docs.take i).foldl setD conf) (rk d) = none then some 290 else none
theorem MgS.fineD {conf docs : List Res} {i : Nat} {all : List Res} (h : MgS conf docs i all) (j : Nat) (hj : j < i) : badD conf docs j = none := by
  have hl := h.le
  have hx : docs[j]? = some docs[j] := List.getElem?_eq_getElem (by omega)
  obtain ⟨h1, h2⟩ := h.ok j _ hj hx
  have h3 := h.dels j _ hj hx
  unfold badD
  rw [hx]
  simp only
  rw [if_neg (by rw [h1]; simp), if_neg (by rw [h2]; simp), if_neg (fun q => by have := h3 q.1; rw [q.2] at this; cases this)]
/-- One way alone. -/
theorem MgE.one {conf docs : List Res} {a b : List Res} {i j e f : Int} (h : MgE conf docs a i e) (h' : MgE conf docs b j f) : a = b ∧ i = j ∧ e = f := by
  have key : ∀ {m n : Nat} {a1 a2 : List Res} {x : Int}, MgS conf docs m a1 → MgS conf docs n a2 → badD conf docs m = some x → ¬ m < n := fun h1 h2 h3 h4 => by
    have := h2.fineD _ h4
    rw [h3] at this; cases this
  have badK : ∀ {m : Nat} {d : Res}, docs[m]? = some d → badKind d = true → badD conf docs m = some 2 := fun hd hb => by
    unfold badD; rw [hd]; simp only; rw [if_pos hb]
  have badT : ∀ {m : Nat} {d : Res}, docs[m]? = some d → badKind d = false → (fnd (docs.take m) (rk d)).isSome → badD conf docs m = some 91 := fun hd hb ht => by
    unfold badD; rw [hd]; simp only; rw [if_neg (by rw [hb]; simp), if_pos ht]
  have badL : ∀ {m : Nat} {d : Res} {all : List Res}, MgS conf docs m all → docs[m]? = some d → badKind d = false → fnd (docs.take m) (rk d) = none → d.del = true → fnd all (rk d) = none → badD conf docs m = some 290 := fun hm hd hb ht hl hf => by
    unfold badD; rw [hd]; simp only; rw [if_neg (by rw [hb]; simp), if_neg (by rw [ht]; simp), if_pos ⟨hl, by rw [← hm.from0]; exact hf⟩]
  have two : ∀ {m n : Nat} {a1 a2 : List Res} {x y : Int}, MgS conf docs m a1 → MgS conf docs n a2 → badD conf docs m = some x → badD conf docs n = some y → (m : Int) = n ∧ x = y := fun h1 h2 h3 h4 => by
    have q1 := key h1 h2 h3
    have q2 := key h2 h1 h4
    have : (_ : Nat) = _ := Nat.le_antisymm (Nat.le_of_not_lt q2) (Nat.le_of_not_lt q1)
    subst this
    rw [h3] at h4
    exact ⟨rfl, Option.some.inj h4⟩
  have lt : ∀ {m : Nat} {d : Res}, docs[m]? = some d → m < docs.length := fun h => (List.getElem?_eq_some_iff.1 h).1
  have same : ∀ {a1 a2 : List Res}, MgS conf docs docs.length a1 → MgS conf docs docs.length a2 → a1 = a2 := fun h1 h2 => by rw [h1.from0, h2.from0]
  cases h with
  | out o => cases h' with
    | out _ => exact ⟨rfl, rfl, rfl⟩
    | kind o' => omega
    | twice o' => omega
    | del o' => omega
    | count o' => omega
    | fine o' => omega
  | kind o s d b => cases h' with
    | out o' => omega
    | kind o' s' d' b' => have := two s s' (badK d b) (badK d' b'); exact ⟨rfl, this.1, rfl⟩
    | twice o' s' d' b' t' => have := two s s' (badK d b) (badT d' b' t'); exact absurd this.2 (by decide)
    | del o' s' d' b' t' l' f' => have := two s s' (badK d b) (badL s' d' b' t' l' f'); exact absurd this.2 (by decide)
    | count o' s' _ => exact absurd (lt d) (key s s' (badK d b))
    | fine o' s' _ => exact absurd (lt d) (key s s' (badK d b))
  | twice o s d b t => cases h' with
    | out o' => omega
    | kind o' s' d' b' => have := two s s' (badT d b t) (badK d' b'); exact absurd this.2 (by decide)
    | twice o' s' d' b' t' => have := two s s' (badT d b t) (badT d' b' t'); exact ⟨rfl, this.1, rfl⟩
    | del o' s' d' b' t' l' f' => have := two s s' (badT d b t) (badL s' d' b' t' l' f'); exact absurd this.2 (by decide)
    | count o' s' _ => exact absurd (lt d) (key s s' (badT d b t))
    | fine o' s' _ => exact absurd (lt d) (key s s' (badT d b t))
  | del o s d b t l f => cases h' with
    | out o' => omega
    | kind o' s' d' b' => have := two s s' (badL s d b t l f) (badK d' b'); exact absurd this.2 (by decide)
    | twice o' s' d' b' t' => have := two s s' (badL s d b t l f) (badT d' b' t'); exact absurd this.2 (by decide)
    | del o' s' d' b' t' l' f' => have := two s s' (badL s d b t l f) (badL s' d' b' t' l' f'); exact ⟨rfl, this.1, rfl⟩
    | count o' s' _ => exact absurd (lt d) (key s s' (badL s d b t l f))
    | fine o' s' _ => exact absurd (lt d) (key s s' (badL s d b t l f))
  | count o s c => cases h' with
    | out o' => omega
    | kind o' s' d' b' => exact absurd (lt d') (key s' s (badK d' b'))
    | twice o' s' d' b' t' => exact absurd (lt d') (key s' s (badT d' b' t'))
    | del o' s' d' b' t' l' f' => exact absurd (lt d') (key s' s (badL s' d' b' t' l' f'))
    | count o' s' _ => exact ⟨rfl, rfl, rfl⟩
    | fine o' s' c' => rw [same s s'] at c; omega
  | fine o s c => cases h' with
    | out o' => omega
    | kind o' s' d' b' => exact absurd (lt d') (key s' s (badK d' b'))
    | twice o' s' d' b' t' => exact absurd (lt d') (key s' s (badT d' b' t'))
    | del o' s' d' b' t' l' f' => exact absurd (lt d') (key s' s (badL s' d' b' t' l' f'))
    | count o' s' c' => rw [same s s'] at c; omega
    | fine o' s' _ => exact ⟨same s s', rfl, rfl⟩
/-! ### diff -/
def delR (k : Key) : Res := ⟨k.1, k.2, [], [], ⟨#[]⟩, [], ⟨#[]⟩, true⟩
theorem rk_delR (k : Key) : rk (delR k) = k := rfl
def newK (a b : List Res) (k : Key) : Option Res → Option Res
  | some r => match fnd a k with
    | some o => if sameR o r = true then none else some r
    | none => some r
  | none => none
def goneK (a b : List Res) (k : Key) : Option Res := match fnd b k with
  | some _ => none
  | none => (fnd a k).map fun _ => delR k
/-- What under a key makes a list another. -/
def diffK (a b : List Res) (k : Key) : Option Res := match fnd b k with
  | some r => newK a b k (some r)
  | none => goneK a b k
def IsDiff (a b l : List Res) : Prop := Srt l ∧ ∀ k, fnd l k = diffK a b k
theorem IsDiff.one {a b l m : List Res} (h : IsDiff a b l) (h' : IsDiff a b m) : l = m := h.1.ext h'.1 fun k => by rw [h.2, h'.2]
end Go.Ck
end

section

namespace Go.Proofs.Ytjepgpocmnijiaa
open Go.RowKit Go.Mp Go.Ck
set_option linter.unusedVariables false
set_option maxRecDepth 100000
set_option maxHeartbeats 8000000
theorem slice_drop {α : Type} {E : Rd.Elem α} {w : World} {b off n cap : Nat} {xs : List α} (h : Rd.SliceOf E w (.slice (some ⟨b, off, none⟩) n cap) xs) {k : Nat} (hk : k ≤ xs.length) : Rd.SliceOf E w (.slice (some ⟨b, off + k * E.k, none⟩) (n - k) (cap - k)) (xs.drop k) := by
  obtain ⟨h1, ao', cap', e, hc, h2⟩ := h
  cases e
  refine ⟨by rw [List.length_drop]; omega, _, _, by rw [List.length_drop], by rw [List.length_drop]; omega, ?_⟩
  rcases h2 with rfl | ⟨b', off', e', hb, hx⟩
  · left; simp
  · cases e'
    refine .inr ⟨_, _, rfl, hb, fun i x hi => ?_⟩
    rw [List.getElem?_drop] at hi
    have h3 := hx (k + i) x hi
    rw [Nat.add_mul, ← Nat.add_assoc] at h3
    exact h3
theorem drop_run {w : World} {ao : Option Addr} {n cap : Nat} {L : List Rw} (h : Rd.SliceOf rwE w (.slice ao n cap) L) (hn : n = L.length) {k : Nat} (hk : k ≤ n) (i : Int) (hi : i = (k : Int)) {n2 : Nat} (hn2 : n2 = n - k) :
    ∃ ao' cap', (∀ w, (Instr.sliceAt 22 (.slice ao n cap) (some (.int .i64 i)) none none).run Try.prog w = .ok (.slice ao' n2 cap') w) ∧ (∀ w, (Instr.slice 22 (.slice ao n cap) (some (.int .i64 i)) none none).run Try.prog w = .ok (.slice ao' n2 cap') w) ∧ Rd.SliceOf rwE w (.slice ao' n2 cap') (L.drop k) := by
  have hc : L.length ≤ cap := slice_cap h
  have hlen := h.1
  subst hn; subst hn2
  have hl : (L.drop k).length = L.length - k := by simp
  have e : Try.prog.underlying 22 = some (.slice (Try.prog.elem 22)) := by kernel_rfl
  have run2 : ∀ w, (Instr.slice 22 (.slice ao L.length cap) (some (.int .i64 i)) none none).run Try.prog w = .ok (sliced ao k L.length cap 8) w := fun w => by
    have z : (sizeOf (Try.prog.elem 22)).run Try.prog w = .ok 8 w := by kernel_rfl
    rw [run_slice_l (ht := e) (h0 := by omega) (h1 := by omega), z]
    rw [show i.toNat = k by omega]
    rfl
  have run : ∀ w, (Instr.sliceAt 22 (.slice ao L.length cap) (some (.int .i64 i)) none none).run Try.prog w = .ok (sliced ao k L.length cap 8) w := fun w => by
    rw [run_sliceAt_slice (h := e)]; exact run2 w
  by_cases hck : cap = k
  · have hs : sliced ao k L.length cap 8 = .slice ao (L.length - k) 0 := by simp [sliced, hck]
    rw [hs] at run2 run
    refine ⟨ao, 0, run, run2, ?_⟩
    have : L.drop k = [] := List.drop_eq_nil_of_le (by omega)
    rw [this, show L.length - k = 0 by omega]
    exact ⟨by simp, _, _, rfl, Nat.le_refl _, .inl rfl⟩
  · have hs : sliced ao k L.length cap 8 = .slice (ao.map (·.add (k * 8))) (L.length - k) (cap - k) := by simp [sliced, hck]
    rw [hs] at run2 run
    refine ⟨_, _, run, run2, ?_⟩
    cases ao with
    | none =>
      have h0 : L = [] := by
        obtain ⟨_, ao', cap', e, _, h2⟩ := h
        cases e
        rcases h2 with h2 | ⟨b, off, e, _⟩
        · exact h2
        · cases e
      subst h0
      exact ⟨by simp, none, cap - k, by simp, by simp, .inl (by simp)⟩
    | some a =>
      by_cases h0 : L.drop k = []
      · rw [h0]
        have hkl : L.length - k = 0 := by rw [← hl, h0]; rfl
        rw [hkl]
        exact ⟨by simp, _, _, rfl, by simp, .inl rfl⟩
      · obtain ⟨_, ao', cap', e, _, h2⟩ := id h
        cases e
        rcases h2 with rfl | ⟨b, off, e, _, _⟩
        · exact absurd (by simp) h0
        · cases e
          have := slice_drop h hk
          have e3 : (⟨b, off, none⟩ : Addr).add (k * 8) = ⟨b, off + k * 8, none⟩ := by unfold Addr.add; split <;> simp_all
          show Rd.SliceOf rwE w (.slice (some ((⟨b, off, none⟩ : Addr).add (k * 8))) (L.length - k) (cap - k)) (L.drop k)
          rw [e3]
          exact this
/-- A list of resources is answered. -/
def LieOut (w : World) (l : List Res) (e : Ending) (w' : World) : Prop := ∃ v' : Value, e = .returned v' ∧ ResS w' v' l ∧ Below w.heap.size w w'
theorem lie_out {w w' : World} {v : Value} {L : List Rw} {n : Nat} {xs : List Value} (hr : w'.ownsRow w.heap.size 52 8 v n xs) (hn : n = L.length) (hx : xs = L.flatMap rwC.enc) (hb : Below w.heap.size w w') (hp : ∀ x ∈ L, Rw.P w x) (hlen : L.length ≤ 140737488351232) : LieOut w (L.map Rw.r) (.returned v) w' := by
  subst hn; subst hx
  exact ⟨v, rfl, lies_reads (Rd.own_slice rwC hr (fun _ _ => trivial) hlen) (fun x hx => RP.below (hp x hx) hb), hb⟩
theorem put72 (l : List Res) (v : Value) (r : Res) (ev tv rv : Value) (w : World) (hl : ResS w v l) (hr : RP w r ev tv rv) (hM : l.length ≤ 4294967296) :
    Calls Try.prog 72 #[v, .agg #[.int .i64 r.kind, .string r.name, ev, tv, .string r.host, rv, .string r.route, .bool r.del]] w (LieOut w (putL l r)) := by
  obtain ⟨eo, ec, rfl⟩ := slice_shape hr.e
  obtain ⟨ta, tc, rfl⟩ := slice_shape hr.t
  obtain ⟨ra, rc, rfl⟩ := slice_shape hr.ru
  obtain ⟨ao, cap, rfl⟩ := slice_shape hl
  have hlen := hl.1
  have hcap := Lib.hid (slice_cap hl)
  obtain ⟨i52, h52, h520, h521, h522⟩ := info_parts info52
  obtain ⟨L, hLm, hLs, hLp⟩ := lies hl
  have hLl : L.length = l.length := by rw [← hLm, List.length_map]
  obtain ⟨w1, hw1⟩ : ∃ w1, w1 = w.alloc (.cells #[.int .i64 r.kind, .string r.name, .slice eo r.eps.length ec, .slice ta r.tgts.length tc, .string r.host, .slice ra r.rules.length rc, .string r.route, .bool r.del] 52) := ⟨_, rfl⟩
  obtain ⟨bk, hbk⟩ : ∃ bk, bk = w.heap.size := ⟨_, rfl⟩
  have hbx : w1.heap[bk]? = some (.cells #[.int .i64 r.kind, .string r.name, .slice eo r.eps.length ec, .slice ta r.tgts.length tc, .string r.host, .slice ra r.rules.length rc, .string r.route, .bool r.del] 52 (0, 0)) := by rw [hw1, hbk]; exact heap_alloc_new w _
  have hb1 : Below w.heap.size w w1 := by rw [hw1]; exact alloc_below _ _
  have hl1 := hl.below hb1
  have hr1 := hr.below hb1
  have hBX : Hid (∀ w', Below w1.heap.size w1 w' → w'.cell? ⟨bk, 0, none⟩ = some (.int .i64 r.kind) ∧ w'.cell? ⟨bk, 1, none⟩ = some (.string r.name) ∧ w'.cell? ⟨bk, 2, none⟩ = some (.slice eo r.eps.length ec) ∧ w'.cell? ⟨bk, 3, none⟩ = some (.slice ta r.tgts.length tc) ∧ w'.cell? ⟨bk, 4, none⟩ = some (.string r.host) ∧ w'.cell? ⟨bk, 5, none⟩ = some (.slice ra r.rules.length rc) ∧ w'.cell? ⟨bk, 6, none⟩ = some (.string r.route) ∧ w'.cell? ⟨bk, 7, none⟩ = some (.bool r.del)) := Lib.hid (fun w' h => by
    have x := (h.block bk (Array.getElem?_eq_some_iff.1 hbx).1).trans hbx
    exact ⟨box_at x rfl, box_at x rfl, box_at x rfl, box_at x rfl, box_at x rfl, box_at x rfl, box_at x rfl, box_at x rfl⟩)
  replace hl := Lib.hid hl
  replace hr := Lib.hid hr
  replace hw1 := Lib.hid hw1
  replace hbk := Lib.hid hbk
  replace hbx := Lib.hid hbx
  replace hb1 := Lib.hid hb1
  replace hl1 := Lib.hid hl1
  replace hr1 := Lib.hid hr1
  replace h52 := Lib.hid h52
  replace h520 := Lib.hid h520
  replace h521 := Lib.hid h521
  replace h522 := Lib.hid h522
  replace hLm := Lib.hid hLm
  replace hLs := Lib.hid hLs
  replace hLp := Lib.hid hLp
  replace hLl := Lib.hid hLl
  replace hM := Lib.hid hM
  go_enter Try.func72, Try.ntmps72
  go_upto_region 1 with fail
  rw [← hw1.out, ← hbk.out]
  go_upto_block 0 with fail
  go_cut [5] (fun iv wx => iv = .int .i64 (putN l r : Nat) ∧ Hid (Below w1.heap.size w1 wx))
  case first =>
    go_wp2
    go_loopg [5] (l.length + 1) (fun gg ic wx => ∃ i : Nat, gg = l.length - i + 1 ∧ i ≤ l.length ∧ ic = .int .i64 i ∧ Hid (∀ (j : Nat) x, j < i → l[j]? = some x → less x r = true) ∧ Hid (Below w1.heap.size w1 wx))
    case atStart => exact ⟨0, rfl, Nat.zero_le _, rfl, Lib.hid (fun j x hj => absurd hj (Nat.not_lt_zero j)), Lib.hid (Below.refl _ _)⟩
    case round =>
      obtain ⟨i, rfl, hi, rfl, hal, hbw⟩ := hrel
      by_cases hlt : i < l.length
      · obtain ⟨x, hx⟩ : ∃ x, l[i]? = some x := ⟨_, List.getElem?_eq_getElem hlt⟩
        obtain ⟨b, off, eo1, ec1, ta1, tc1, ra1, rc1, rfl, hbl, c, hp⟩ := res_at2 hl1.out hx
        have hk0 : (i : Int) < (l.length : Int) := nn_lt hlt
        have hwk := Lib.hid (nn_succ2 hlt hlen)
        obtain ⟨bb, hbb⟩ : ∃ s, less x r = s := ⟨_, rfl⟩
        have hK : Hid (∀ w', Below wr.heap.size wr w' → Calls Try.prog 32 #[.agg #[.int .i64 x.kind, .string x.name, .slice eo1 x.eps.length ec1, .slice ta1 x.tgts.length tc1, .string x.host, .slice ra1 x.rules.length rc1, .string x.route, .bool x.del], .agg #[.int .i64 r.kind, .string r.name, .slice eo r.eps.length ec, .slice ta r.tgts.length tc, .string r.host, .slice ra r.rules.length rc, .string r.route, .bool r.del]] w' fun e w2 => e = .returned (.bool bb) ∧ Below wr.heap.size wr w2) := Lib.hid (fun w' h => by
          rw [← hbb]
          exact (less32 x r _ _ _ _ _ _ w').mono fun _ _ ⟨he, hb⟩ => ⟨he, seq_below h hb⟩)
        have hS : Hid (∀ w', Below wr.heap.size wr w' → Below wr.heap.size wr w' ∧ w'.cell? ⟨bk, 0, none⟩ = some (.int .i64 r.kind) ∧ w'.cell? ⟨bk, 1, none⟩ = some (.string r.name) ∧ w'.cell? ⟨bk, 2, none⟩ = some (.slice eo r.eps.length ec) ∧ w'.cell? ⟨bk, 3, none⟩ = some (.slice ta r.tgts.length tc) ∧ w'.cell? ⟨bk, 4, none⟩ = some (.string r.host) ∧ w'.cell? ⟨bk, 5, none⟩ = some (.slice ra r.rules.length rc) ∧ w'.cell? ⟨bk, 6, none⟩ = some (.string r.route) ∧ w'.cell? ⟨bk, 7, none⟩ = some (.bool r.del) ∧ w'.cell? ⟨b, off + i * 8, none⟩ = some (.int .i64 x.kind) ∧ w'.cell? ⟨b, off + i * 8 + 1, none⟩ = some (.string x.name) ∧ w'.cell? ⟨b, off + i * 8 + 2, none⟩ = some (.slice eo1 x.eps.length ec1) ∧ w'.cell? ⟨b, off + i * 8 + 3, none⟩ = some (.slice ta1 x.tgts.length tc1) ∧ w'.cell? ⟨b, off + i * 8 + 4, none⟩ = some (.string x.host) ∧ w'.cell? ⟨b, off + i * 8 + 5, none⟩ = some (.slice ra1 x.rules.length rc1) ∧ w'.cell? ⟨b, off + i * 8 + 6, none⟩ = some (.string x.route) ∧ w'.cell? ⟨b, off + i * 8 + 7, none⟩ = some (.bool x.del)) := Lib.hid (fun w' h => by
          obtain ⟨d0, d1, d2, d3, d4, d5, d6, d7⟩ := c.below hbl (seq_below hbw.out h)
          obtain ⟨e0, e1, e2, e3, e4, e5, e6, e7⟩ := hBX.out w' (seq_below hbw.out h)
          exact ⟨h, e0, e1, e2, e3, e4, e5, e6, e7, d0, d1, d2, d3, d4, d5, d6, d7⟩)
        have hcur : Hid (Below wr.heap.size wr wr.drew) := Lib.hid ⟨rfl, rfl, rfl, Nat.le_refl _, fun _ _ => rfl⟩
        obtain ⟨_, e0, e1, e2, e3, e4, e5, e6, e7, d0, d1, d2, d3, d4, d5, d6, d7⟩ := hS.out wr (Below.refl _ _)
        replace hx := Lib.hid hx
        replace c := Lib.hid c
        replace hp := Lib.hid hp
        replace hbl := Lib.hid hbl
        cases bb with
        | true =>
          have hal2 : Hid (∀ (j : Nat) y, j < i + 1 → l[j]? = some y → less y r = true) := Lib.hid (fun j y hj hy => by
            rcases Nat.lt_succ_iff_lt_or_eq.1 hj with h | h
            · exact hal.out j y h hy
            · subst h
              rw [hx.out] at hy
              cases hy
              exact hbb)
          go_upto_region 2 with fail
          go_region_held3 (fun w' => Below wr.heap.size wr w' ∧ w'.cell? ⟨bk, 0, none⟩ = some (.int .i64 r.kind) ∧ w'.cell? ⟨bk, 1, none⟩ = some (.string r.name) ∧ w'.cell? ⟨bk, 2, none⟩ = some (.slice eo r.eps.length ec) ∧ w'.cell? ⟨bk, 3, none⟩ = some (.slice ta r.tgts.length tc) ∧ w'.cell? ⟨bk, 4, none⟩ = some (.string r.host) ∧ w'.cell? ⟨bk, 5, none⟩ = some (.slice ra r.rules.length rc) ∧ w'.cell? ⟨bk, 6, none⟩ = some (.string r.route) ∧ w'.cell? ⟨bk, 7, none⟩ = some (.bool r.del) ∧ w'.cell? ⟨b, off + i * 8, none⟩ = some (.int .i64 x.kind) ∧ w'.cell? ⟨b, off + i * 8 + 1, none⟩ = some (.string x.name) ∧ w'.cell? ⟨b, off + i * 8 + 2, none⟩ = some (.slice eo1 x.eps.length ec1) ∧ w'.cell? ⟨b, off + i * 8 + 3, none⟩ = some (.slice ta1 x.tgts.length tc1) ∧ w'.cell? ⟨b, off + i * 8 + 4, none⟩ = some (.string x.host) ∧ w'.cell? ⟨b, off + i * 8 + 5, none⟩ = some (.slice ra1 x.rules.length rc1) ∧ w'.cell? ⟨b, off + i * 8 + 6, none⟩ = some (.string x.route) ∧ w'.cell? ⟨b, off + i * 8 + 7, none⟩ = some (.bool x.del))
            (first | exact hS.out _ hcur.out | fail)
            (first
              | (go_at_call 32; (with_reducible refine (hK.out _ hcur.out).mono ?_); rintro e wC ⟨rfl, hbC⟩; replace hcur := Lib.hid hbC; clear hbC)
              | fail)
          all_goals
            go_wp2
            go_roundg (l.length - (i + 1) + 1)
            case rel => exact ⟨i + 1, rfl, hlt, by first | rw [hwk.out] | go_num, hal2, Lib.hid (seq_below hbw.out hcur.out)⟩
            case measure => exact nn_downS hlt
        | false =>
          have hN := Lib.hid (putN_at (l := l) (r := r) (i := i) hal.out (.inr ⟨x, hx.out, hbb⟩) hi)
          go_upto_region 2 with fail
          go_region_held3 (fun w' => Below wr.heap.size wr w' ∧ w'.cell? ⟨bk, 0, none⟩ = some (.int .i64 r.kind) ∧ w'.cell? ⟨bk, 1, none⟩ = some (.string r.name) ∧ w'.cell? ⟨bk, 2, none⟩ = some (.slice eo r.eps.length ec) ∧ w'.cell? ⟨bk, 3, none⟩ = some (.slice ta r.tgts.length tc) ∧ w'.cell? ⟨bk, 4, none⟩ = some (.string r.host) ∧ w'.cell? ⟨bk, 5, none⟩ = some (.slice ra r.rules.length rc) ∧ w'.cell? ⟨bk, 6, none⟩ = some (.string r.route) ∧ w'.cell? ⟨bk, 7, none⟩ = some (.bool r.del) ∧ w'.cell? ⟨b, off + i * 8, none⟩ = some (.int .i64 x.kind) ∧ w'.cell? ⟨b, off + i * 8 + 1, none⟩ = some (.string x.name) ∧ w'.cell? ⟨b, off + i * 8 + 2, none⟩ = some (.slice eo1 x.eps.length ec1) ∧ w'.cell? ⟨b, off + i * 8 + 3, none⟩ = some (.slice ta1 x.tgts.length tc1) ∧ w'.cell? ⟨b, off + i * 8 + 4, none⟩ = some (.string x.host) ∧ w'.cell? ⟨b, off + i * 8 + 5, none⟩ = some (.slice ra1 x.rules.length rc1) ∧ w'.cell? ⟨b, off + i * 8 + 6, none⟩ = some (.string x.route) ∧ w'.cell? ⟨b, off + i * 8 + 7, none⟩ = some (.bool x.del))
            (first | exact hS.out _ hcur.out | fail)
            (first
              | (go_at_call 32; (with_reducible refine (hK.out _ hcur.out).mono ?_); rintro e wC ⟨rfl, hbC⟩; replace hcur := Lib.hid hbC; clear hbC)
              | fail)
          all_goals
            go_wp2
            go_meet
            exact ⟨by rw [hN.out], Lib.hid (seq_below hbw.out hcur.out)⟩
      · have hk0 : decide ((i : Int) < (l.length : Int)) = false := decide_eq_false (by omega)
        have hN := Lib.hid (putN_at (l := l) (r := r) (i := i) hal.out (.inl (by omega)) hi)
        go_upto_region 2 with fail
        go_quiet (fail)
        go_wp2
        go_meet
        exact ⟨by rw [hN.out], Lib.hid (seq_below hbw.out (drew_below _ _))⟩
  case rest =>
    obtain ⟨rfl, hbz⟩ := hcut
    obtain ⟨i, hi0⟩ : ∃ i, i = putN l r := ⟨_, rfl⟩
    rw [← hi0]
    have hil := putN_le l r
    rw [← hi0] at hil
    have hi' := Lib.hid hil
    have hBw := Lib.hid (seq_below hb1.out hbz.out)
    have hLT := Lib.hid (slice_take (hLs.out.below hBw.out) (k := i) (by rw [hLl.out]; exact hi'.out))
    have hrow0 := Lib.hid (World.ownsRow_nil wc w.heap.size 52 8)
    have hlT : (L.take i).length = i := by rw [List.length_take, hLl.out]; have := hi'.out; omega
    have lim1 : 0 + (L.take i).length ≤ maxLen ∧ (0 + (L.take i).length) * 136 ≤ 140737488355328 := by have := hM.out; have := hi'.out; rw [hlT]; unfold maxLen; omega
    have hic : i ≤ cap := Nat.le_trans hi'.out hcap.out
    have hic2 : (i : Int) ≤ (cap : Int) := by omega
    obtain ⟨ao2, cap2, hr1, hr2, hLD⟩ := drop_run hLs.out hLl.out.symm (k := i) hi'.out (i : Int) rfl (n2 := l.length - i) rfl
    replace hLD := Lib.hid hLD
    have lim3 : i + 1 + (L.drop i).length ≤ maxLen ∧ (i + 1 + (L.drop i).length) * 136 ≤ 140737488355328 := by have := hM.out; have := hi'.out; rw [List.length_drop, hLl.out]; unfold maxLen; omega
    have lim2 : i + 1 ≤ maxLen ∧ (i + 1) * 136 ≤ 140737488355328 := by have := hM.out; have := hi'.out; unfold maxLen; omega
    replace hlT := Lib.hid hlT
    replace lim1 := Lib.hid lim1
    replace lim2 := Lib.hid lim2
    replace lim3 := Lib.hid lim3
    replace hil := Lib.hid hil
    replace hi0 := Lib.hid hi0
    go_upto_region 6 with (first
      | (at_builtin; refine Rd.wp_append_src rwC (by rfl) _ _ 22 (by rfl) w.heap.size 52 i52 _ 136 Try.underlying22 h52.out h520.out h521.out h522.out rfl _ 0 [] (by rfl) hrow0.out _ (L.take i) (by rfl) hLT.out lim1.out.1 lim1.out.2 hBw.out.size ?_; intro v3 w3 hr3 hg3 hl3; obtain ⟨po, pc, rfl⟩ := ownsRow_shape hr3; rw [Nat.zero_add, List.nil_append, hlT.out] at hr3; rw [Nat.zero_add, hlT.out]; have hb3 := Lib.hid (hbz.out.grown hg3 hbz.out.size (fun q hq => by cases hq)); (obtain ⟨e0, e1, e2, e3, e4, e5, e6, e7⟩ := hBX.out _ hb3.out); replace hr3 := Lib.hid hr3; clear hg3 hl3)
      | fail)
    have hB3 := Lib.hid (seq_below hb1.out hb3.out)
    go_upto_region 7 with (first
      | (at_builtin; refine wp_append_us (us := (Rw.mk r eo ec ta tc ra rc).cells) (by rfl) _ _ 22 (by rfl) w.heap.size 52 i52 _ 8 136 Try.underlying22 h52.out h520.out h521.out h522.out rfl (by decide) _ i _ (by rfl) hr3.out 1 (by rfl) rfl (rwC.one _) lim2.out.1 lim2.out.2 hB3.out.size ?_; intro v5 w5 hr5 hg5 hl5; obtain ⟨qo, qc, rfl⟩ := ownsRow_shape hr5; have hB5 := Lib.hid (hB3.out.grown hg5 hB3.out.size (fun q hq => (ownsRow_ge hr3.out hq).1)); replace hr5 := Lib.hid hr5; clear hg5 hl5)
      | fail)
    have hLD5 := Lib.hid (hLD.out.below hB5.out)
    go_wp2_with (first
      | (at_builtin; refine Rd.wp_append_src rwC (by rfl) _ _ 22 (by rfl) w.heap.size 52 i52 _ 136 Try.underlying22 h52.out h520.out h521.out h522.out rfl _ (i + 1) _ (by rfl) hr5.out _ (L.drop i) (by rfl) hLD5.out lim3.out.1 lim3.out.2 hB5.out.size ?_; intro v7 w7 hr7 hg7 hl7; obtain ⟨so, sc, rfl⟩ := ownsRow_shape hr7; have hB7 := Lib.hid (hB5.out.grown hg7 hB5.out.size (fun q hq => (ownsRow_ge hr5.out hq).1)); replace hr7 := Lib.hid hr7; clear hg7 hl7)
      | fail)
    go_ret
    have e := lie_out (w := w) (L := L.take i ++ Rw.mk r eo ec ta tc ra rc :: L.drop i) hr7.out (by rw [List.length_append, List.length_cons, hlT.out, List.length_drop]; omega) (by rw [List.flatMap_append, List.flatMap_cons, List.append_assoc]; rfl) hB7.out (fun x hx => by
      rcases List.mem_append.1 hx with h | h
      · exact hLp.out x (List.mem_of_mem_take h)
      · rcases List.mem_cons.1 h with rfl | h
        · exact hr.out
        · exact hLp.out x (List.mem_of_mem_drop h)) (by rw [List.length_append, List.length_cons, hlT.out, List.length_drop, hLl.out]; have := hM.out; have := hi'.out; omega)
    rw [List.map_append, List.map_cons, List.map_take, List.map_drop, hLm.out] at e
    simp only [List.length_drop] at e
    unfold putL
    rw [← hi0.out]
    exact e
theorem drop71 (l : List Res) (v : Value) (i : Nat) (w : World) (hl : ResS w v l) (hi : i < l.length) (hM : l.length ≤ 4294967296) : Calls Try.prog 71 #[v, .int .i64 i] w (LieOut w (dropL l i)) := by
  obtain ⟨ao, cap, rfl⟩ := slice_shape hl
  have hlen := hl.1
  have hcap := Lib.hid (slice_cap hl)
  obtain ⟨i52, h52, h520, h521, h522⟩ := info_parts info52
  obtain ⟨L, hLm, hLs, hLp⟩ := lies hl
  have hLl : L.length = l.length := by rw [← hLm, List.length_map]
  have hLT := slice_take hLs (k := i) (by rw [hLl]; omega)
  have hi1 : ((i : Int) + 1 : Int) = ((i + 1 : Nat) : Int) := by omega
  obtain ⟨ao2, cap2, hr1, hr2, hLD⟩ := drop_run hLs hLl.symm (k := i + 1) hi ((i : Int) + 1) hi1 (n2 := l.length - (i + 1)) rfl
  clear hi1
  have hlT : (L.take i).length = i := by rw [List.length_take, hLl]; omega
  have lim1 : 0 + (L.take i).length ≤ maxLen ∧ (0 + (L.take i).length) * 136 ≤ 140737488355328 := by rw [hlT]; unfold maxLen; omega
  have lim2 : i + (L.drop (i + 1)).length ≤ maxLen ∧ (i + (L.drop (i + 1)).length) * 136 ≤ 140737488355328 := by rw [List.length_drop, hLl]; unfold maxLen; omega
  have hrow0 := Lib.hid (World.ownsRow_nil w w.heap.size 52 8)
  have hic : i ≤ cap := Nat.le_trans (Nat.le_of_lt hi) (by have := hcap.out; omega)
  have hic2 : (i : Int) ≤ (cap : Int) := by omega
  have hwi : IntKind.i64.wrap ((i : Int) + 1) = (i : Int) + 1 := by have := hM; rw [IntKind.wrap_i64]; omega
  replace hLT := Lib.hid hLT
  replace hLD := Lib.hid hLD
  replace hlT := Lib.hid hlT
  replace lim1 := Lib.hid lim1
  replace lim2 := Lib.hid lim2
  replace hLs := Lib.hid hLs
  replace hLp := Lib.hid hLp
  replace hLm := Lib.hid hLm
  replace hLl := Lib.hid hLl
  replace hl := Lib.hid hl
  replace hM := Lib.hid hM
  replace hlen := Lib.hid hlen
  replace hi := Lib.hid hi
  replace h52 := Lib.hid h52
  replace h520 := Lib.hid h520
  replace h521 := Lib.hid h521
  replace h522 := Lib.hid h522
  go_enter Try.func71, Try.ntmps71
  go_wp2_with (first
    | (at_builtin; refine Rd.wp_append_src rwC (by rfl) _ _ 22 (by rfl) w.heap.size 52 i52 _ 136 Try.underlying22 h52.out h520.out h521.out h522.out rfl _ 0 [] (by rfl) hrow0.out _ (L.take i) (by rfl) hLT.out lim1.out.1 lim1.out.2 (Nat.le_refl _) ?_; intro v3 w3 hr3 hg3 hl3; obtain ⟨po, pc, rfl⟩ := ownsRow_shape hr3; rw [Nat.zero_add, List.nil_append, hlT.out] at hr3; rw [Nat.zero_add, hlT.out]; have hB3 := Lib.hid ((Below.refl w.heap.size w).grown hg3 (Nat.le_refl _) (fun q hq => by cases hq)); have hLD3 := Lib.hid (hLD.out.below hB3.out); replace hr3 := Lib.hid hr3; clear hg3 hl3)
    | (at_builtin; refine Rd.wp_append_src rwC (by rfl) _ _ 22 (by rfl) w.heap.size 52 i52 _ 136 Try.underlying22 h52.out h520.out h521.out h522.out rfl _ i _ (by rfl) hr3.out _ (L.drop (i + 1)) (by rfl) hLD3.out lim2.out.1 lim2.out.2 hB3.out.size ?_; intro v7 w7 hr7 hg7 hl7; obtain ⟨so, sc, rfl⟩ := ownsRow_shape hr7; have hB7 := Lib.hid (hB3.out.grown hg7 hB3.out.size (fun q hq => (ownsRow_ge hr3.out hq).1)); replace hr7 := Lib.hid hr7; clear hg7 hl7)
    | fail)
  go_ret
  have e := lie_out (w := w) (L := L.take i ++ L.drop (i + 1)) hr7.out (by rw [List.length_append, hlT.out]) (by rw [List.flatMap_append]) hB7.out (fun x hx => by
    rcases List.mem_append.1 hx with h | h
    · exact hLp.out x (List.mem_of_mem_take h)
    · exact hLp.out x (List.mem_of_mem_drop h)) (by rw [List.length_append, hlT.out, List.length_drop, hLl.out]; have := hM.out; have := hi.out; omega)
  rw [List.map_append, List.map_take, List.map_drop, hLm.out] at e
  simp only [List.length_drop] at e
  exact e
end Go.Proofs.Ytjepgpocmnijiaa
end
