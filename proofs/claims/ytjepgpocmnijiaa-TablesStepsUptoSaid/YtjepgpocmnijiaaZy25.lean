/- The walk of the program's Same. -/
import Derived.Test.YtjepgpocmnijiaaZy15
import Derived.Test.YtjepgpocmnijiaaZy24
section
/- The walks of own and of Lists. -/
namespace Go.Ck
end Go.Ck
namespace Go.Ck
/-- A resource's lists lie in memory: none is longer than any memory. -/
structure SzR (r : Res) : Prop where
  e : r.eps.length * 16 ≤ 140737488355328
  t : r.tgts.length * 40 ≤ 140737488355328
  r : r.rules.length * 56 ≤ 140737488355328
/-- Resources that lie in memory. -/
structure SzL (l : List Res) : Prop where
  n : l.length * 136 ≤ 140737488355328
  el : ∀ r ∈ l, SzR r
theorem sz_of {l : List Res} (h : listM l ≤ 1048576) : SzL l :=
  ⟨by have := len_le l; omega, fun r hr => by
    have h1 := mem_le hr
    have h2 := eps_le r
    have h3 := tgts_le r
    have h4 := rules_le r
    exact ⟨by omega, by omega, by omega⟩⟩
end Go.Ck
namespace Go.Proofs.Ytjepgpocmnijiaa
open Go.RowKit Go.Mp Go.Ck
set_option linter.unusedVariables false
set_option maxRecDepth 100000
set_option maxHeartbeats 4000000
theorem info9 : (Try.prog.info? 9).map (fun i => (i.zero, i.size, i.bytes)) = some (some (.string ⟨#[]⟩), 1, 16) := by kernel_rfl
theorem info57 : (Try.prog.info? 57).map (fun i => (i.zero, i.size, i.bytes)) = some (some (.agg #[.string ⟨#[]⟩, .string ⟨#[]⟩, .float .f64 0]), 3, 40) := by kernel_rfl
theorem info101 : (Try.prog.info? 101).map (fun i => (i.zero, i.size, i.bytes)) = some (some (.agg #[.string ⟨#[]⟩, .string ⟨#[]⟩, .string ⟨#[]⟩, .bool false]), 4, 56) := by kernel_rfl
theorem info52 : (Try.prog.info? 52).map (fun i => (i.zero, i.size, i.bytes)) = some (some (.agg #[.int .i64 0, .string ⟨#[]⟩, .slice none 0 0, .slice none 0 0, .string ⟨#[]⟩, .slice none 0 0, .string ⟨#[]⟩, .bool false]), 8, 136) := by kernel_rfl
theorem ownM_tch {w w' : World} {B : Nat} {v : Value} {L : List RV} {S : Nat → Prop} (h : OwnM w B v L) (t : Tch S w w') (h1 : ∀ g, v.ownBlock = some g → ¬ S g) (h2 : ∀ x ∈ L, ∀ g, x.ev.ownBlock = some g ∨ x.tv.ownBlock = some g ∨ x.rv.ownBlock = some g → ¬ S g) : OwnM w' B v L :=
  ⟨ownsRow_tch h.row t h1, fun x hx => (h.el x hx).tch t (fun g q => h2 x hx g (.inl q)) (fun g q => h2 x hx g (.inr (.inl q))) (fun g q => h2 x hx g (.inr (.inr q)))⟩
theorem ownM_below {w w' : World} {B : Nat} {v : Value} {L : List RV} (h : OwnM w B v L) (hb : Below w.heap.size w w') : OwnM w' B v L := ownM_tch h (Tch.of_below (S := No) hb) (fun _ _ q => q) (fun _ _ _ _ q => q)
theorem empty_row (w : World) (B : Nat) (hB : B ≤ w.heap.size) (e size : Nat) : (w.alloc (.cells #[] e)).ownsRow B e size (.slice (some ⟨w.heap.size, 0, none⟩) 0 0) 0 [] :=
  World.ownsRow_made w #[] 0 hB (by unfold maxLen; omega) (by simp)
theorem box_set {w : World} {g i : Nat} {cs : Array Value} {T : TypeId} {v : Value} (h : w.heap[g]? = some (.cells cs T (0, 0))) : (w.setCell ⟨g, i, none⟩ v).heap[g]? = some (.cells (cs.setIfInBounds i v) T (0, 0)) := heap_setCell_same w g i cs T v h
theorem row_block_ne {w : World} {B e size n : Nat} {v : Value} {xs : List Value} {g T : Nat} {cs : Array Value} (h : w.ownsRow B e size v n xs) (hg : w.heap[g]? = some (.cells cs T (0, 0))) (he : e ≠ T) : ∀ k, v.ownBlock = some k → k ≠ g := fun k hk q => row_not h hg he (by rw [← q]; exact hk)
end Go.Proofs.Ytjepgpocmnijiaa
end

section
/- The walk of Lists. -/
namespace Go.Proofs.Ytjepgpocmnijiaa
open Go.RowKit Go.Mp Go.Ck
set_option linter.unusedVariables false
set_option maxRecDepth 100000
set_option maxHeartbeats 4000000
end Go.Proofs.Ytjepgpocmnijiaa
end

section
/- Resources in order: no two have one key. What is wrong with a configuration, in plain words. -/
namespace Go.Ck
set_option linter.unusedVariables false
theorem bl_irrefl : ∀ a : List UInt8, Op.bytesLess a a = false
  | [] => rfl
  | x :: xs => by simp [Op.bytesLess, bl_irrefl xs]
theorem bl_trans : ∀ a b c : List UInt8, Op.bytesLess a b = true → Op.bytesLess b c = true → Op.bytesLess a c = true
  | _, _, [], _, h2 => by cases ‹List UInt8› <;> simp [Op.bytesLess] at h2
  | [], [], _ :: _, h1, _ => by simp [Op.bytesLess] at h1
  | [], _ :: _, _ :: _, _, _ => rfl
  | x :: xs, [], _ :: _, h1, _ => by simp [Op.bytesLess] at h1
  | x :: xs, y :: ys, z :: zs, h1, h2 => by
    simp only [Op.bytesLess, Bool.or_eq_true, decide_eq_true_eq, Bool.and_eq_true, beq_iff_eq] at h1 h2 ⊢
    rcases h1 with h1 | ⟨e1, h1⟩ <;> rcases h2 with h2 | ⟨e2, h2⟩
    · exact .inl (UInt8.lt_trans h1 h2)
    · subst e2; exact .inl h1
    · subst e1; exact .inl h2
    · subst e1; subst e2; exact .inr ⟨rfl, bl_trans xs ys zs h1 h2⟩
theorem less_iff {a b : Res} : less a b = true ↔ a.kind < b.kind ∨ a.kind = b.kind ∧ Op.bytesLess a.name.toList b.name.toList = true := by
  unfold less slt
  simp only [Bool.or_eq_true, decide_eq_true_eq, Bool.and_eq_true, beq_iff_eq]
theorem less_trans {a b c : Res} (h1 : less a b = true) (h2 : less b c = true) : less a c = true := by
  rw [less_iff] at *
  rcases h1 with h1 | ⟨e1, h1⟩ <;> rcases h2 with h2 | ⟨e2, h2⟩
  · exact .inl (by omega)
  · exact .inl (by omega)
  · exact .inl (by omega)
  · exact .inr ⟨by omega, bl_trans _ _ _ h1 h2⟩
theorem less_key {a b : Res} (h : less a b = true) : ¬ (a.kind = b.kind ∧ a.name = b.name) := fun ⟨e1, e2⟩ => by
  rw [less_iff, e1, e2, bl_irrefl] at h
  rcases h with h | ⟨_, h⟩
  · omega
  · cases h
/-- All that 'in order' says. -/
structure Ord (l : List Res) : Prop where
  kind : ∀ r ∈ l, 1 ≤ r.kind ∧ r.kind ≤ 4 ∧ r.del = false
  next : ∀ (i : Nat) (a b : Res), l[i]? = some a → l[i + 1]? = some b → less a b = true
theorem ord_of {l : List Res} (h : outI l < 0) : Ord l := by
  unfold outI at h
  rcases firstN_cases l.length (badIx l) with ⟨_, hno⟩ | ⟨i, _, e, _⟩
  · refine ⟨fun r hr => ?_, fun i a b ha hb => ?_⟩
    · obtain ⟨i, hi⟩ := List.mem_iff_getElem?.1 hr
      have h1 := hno i (List.getElem?_eq_some_iff.1 hi).1
      rw [badIx_at hi] at h1
      unfold badAt at h1
      simp only [Bool.or_eq_false_iff, decide_eq_false_iff_not] at h1
      obtain ⟨⟨⟨h1, h2⟩, h3⟩, _⟩ := h1
      exact ⟨by omega, by omega, h3⟩
    · have h1 := hno (i + 1) (List.getElem?_eq_some_iff.1 hb).1
      rw [badIx_at hb] at h1
      unfold badAt at h1
      simp only [Bool.or_eq_false_iff, decide_eq_false_iff_not] at h1
      obtain ⟨_, h2⟩ := h1
      rw [Nat.add_sub_cancel, ha] at h2
      simpa using h2
  · rw [e] at h; omega
theorem Ord.lt {l : List Res} (h : Ord l) {i : Nat} {a : Res} (ha : l[i]? = some a) : ∀ (d : Nat) (b : Res), l[i + d + 1]? = some b → less a b = true
  | 0, b, hb => h.next i a b ha hb
  | d + 1, b, hb => by
    have hlt := (List.getElem?_eq_some_iff.1 hb).1
    obtain ⟨c, hc⟩ : ∃ c, l[i + d + 1]? = some c := ⟨_, List.getElem?_eq_getElem (by omega)⟩
    exact less_trans (h.lt ha d c hc) (h.next _ c b hc hb)
theorem Ord.inj {l : List Res} (h : Ord l) {i j : Nat} {a b : Res} (ha : l[i]? = some a) (hb : l[j]? = some b) (hk : a.kind = b.kind) (hn : a.name = b.name) : i = j := by
  rcases Nat.lt_trichotomy i j with h1 | h1 | h1
  · have := h.lt ha (j - i - 1) b (by rw [show i + (j - i - 1) + 1 = j by omega]; exact hb)
    exact absurd ⟨hk, hn⟩ (less_key this)
  · exact h1
  · have := h.lt hb (i - j - 1) a (by rw [show j + (i - j - 1) + 1 = i by omega]; exact ha)
    exact absurd ⟨hk.symm, hn.symm⟩ (less_key this)
theorem Ord.find {l : List Res} (h : Ord l) {r : Res} (hr : r ∈ l) : l.find? (isK r.kind r.name) = some r := by
  cases hf : l.find? (isK r.kind r.name) with
  | none =>
    rw [List.find?_eq_none] at hf
    have := hf r hr
    unfold isK at this
    simp [seq_iff] at this
  | some x =>
    have h1 := List.find?_some hf
    have h2 := List.mem_of_find?_eq_some hf
    unfold isK at h1
    rw [Bool.and_eq_true, beq_iff_eq, seq_iff] at h1
    obtain ⟨i, hi⟩ := List.mem_iff_getElem?.1 hr
    obtain ⟨j, hj⟩ := List.mem_iff_getElem?.1 h2
    have := h.inj hj hi h1.1 h1.2
    subst this
    rw [hi] at hj
    rw [Option.some.inj hj]
theorem Ord.uniq {l : List Res} (h : Ord l) : Uniq l := fun i r hi hk => by
  unfold tgtsOf
  have := h.find (List.mem_of_getElem? hi)
  rw [hk] at this
  rw [this]
/-! ### what is wrong -/
def dangAt (l : List Res) (i : Int) : Int := match l[i.toNat]? with
  | some r => dangI l r
  | none => 0
abbrev Flt := Int × Int × Int
def faultP (l : List Res) : Flt :=
  if 0 ≤ outI l then (outI l, 0, 2)
  else if 64 < l.length then (0, 0, 124)
  else if 0 ≤ firstN l.length (dangIx l) then (firstN l.length (dangIx l), dangAt l (firstN l.length (dangIx l)), 140)
  else if 0 ≤ firstN l.length (twiceIx l) then (firstN l.length (twiceIx l), 0, 141)
  else if 0 ≤ firstN l.length (heavyIx l) then (firstN l.length (heavyIx l), 0, 142)
  else if 0 ≤ firstN l.length (ringIx l) then (firstN l.length (ringIx l), 0, 143)
  else (0, 0, 0)
def warnP (l : List Res) : List Warn := if (faultP l).2.2 = 0 then shadowL l l.length else []
/-- The ways of a check, told one by one. -/
inductive Chk (l : List Res) : Flt → List Warn → Prop
  | out : 0 ≤ outI l → Chk l (outI l, 0, 2) []
  | count : outI l < 0 → 64 < l.length → Chk l (0, 0, 124) []
  | dang {i : Nat} {r : Res} : outI l < 0 → l.length ≤ 64 → (∀ j, j < i → dangIx l j = false) → l[i]? = some r → 0 ≤ dangI l r → Chk l ((i : Int), dangI l r, 140) []
  | twice {i : Nat} : outI l < 0 → l.length ≤ 64 → (∀ j, j < l.length → dangIx l j = false) → (∀ j, j < i → twiceIx l j = false) → i < l.length → twiceIx l i = true → Chk l ((i : Int), 0, 141) []
  | heavy {i : Nat} : outI l < 0 → l.length ≤ 64 → (∀ j, j < l.length → dangIx l j = false) → (∀ j, j < l.length → twiceIx l j = false) → (∀ j, j < i → heavyIx l j = false) → i < l.length → heavyIx l i = true → Chk l ((i : Int), 0, 142) []
  | ring {i : Nat} : outI l < 0 → l.length ≤ 64 → (∀ j, j < l.length → dangIx l j = false) → (∀ j, j < l.length → twiceIx l j = false) → (∀ j, j < l.length → heavyIx l j = false) → (∀ j, j < i → ringIx l j = false) → i < l.length → ringIx l i = true → Chk l ((i : Int), 0, 143) []
  | fine : outI l < 0 → l.length ≤ 64 → (∀ j, j < l.length → dangIx l j = false) → (∀ j, j < l.length → twiceIx l j = false) → (∀ j, j < l.length → heavyIx l j = false) → (∀ j, j < l.length → ringIx l j = false) → Chk l (0, 0, 0) (shadowL l l.length)
theorem Chk.eq {l : List Res} {f : Flt} {ws : List Warn} (h : Chk l f ws) : f = faultP l ∧ ws = warnP l := by
  have key : f = faultP l → ((faultP l).2.2 = 0 → ws = shadowL l l.length) → ((faultP l).2.2 ≠ 0 → ws = []) → f = faultP l ∧ ws = warnP l := fun h1 h2 h3 => by
    refine ⟨h1, ?_⟩
    unfold warnP
    split
    · exact h2 ‹_›
    · exact h3 ‹_›
  cases h with
  | out h1 =>
    have e : faultP l = (outI l, 0, 2) := by unfold faultP; rw [if_pos h1]
    exact key e.symm (fun h => by rw [e] at h; cases h) (fun _ => rfl)
  | count h1 h2 =>
    have e : faultP l = (0, 0, 124) := by unfold faultP; rw [if_neg (by omega), if_pos h2]
    exact key e.symm (fun h => by rw [e] at h; cases h) (fun _ => rfl)
  | @dang i r h1 h2 h3 h4 h5 =>
    have hi := (List.getElem?_eq_some_iff.1 h4).1
    have e1 := firstN_at h3 hi (by rw [dangIx_at h4]; exact decide_eq_true h5)
    have e : faultP l = ((i : Int), dangI l r, 140) := by
      unfold faultP
      rw [if_neg (by omega), if_neg (by omega), e1, if_pos (by omega)]
      unfold dangAt
      rw [Int.toNat_natCast, h4]
    exact key e.symm (fun h => by rw [e] at h; cases h) (fun _ => rfl)
  | @twice i h1 h2 h3 h4 h5 h6 =>
    have e1 := firstN_at h4 h5 h6
    have e : faultP l = ((i : Int), 0, 141) := by
      unfold faultP
      rw [if_neg (by omega), if_neg (by omega), firstN_none h3, if_neg (by omega), e1, if_pos (by omega)]
    exact key e.symm (fun h => by rw [e] at h; cases h) (fun _ => rfl)
  | @heavy i h1 h2 h3 h4 h5 h6 h7 =>
    have e1 := firstN_at h5 h6 h7
    have e : faultP l = ((i : Int), 0, 142) := by
      unfold faultP
      rw [if_neg (by omega), if_neg (by omega), firstN_none h3, if_neg (by omega), firstN_none h4, if_neg (by omega), e1, if_pos (by omega)]
    exact key e.symm (fun h => by rw [e] at h; cases h) (fun _ => rfl)
  | @ring i h1 h2 h3 h4 h5 h6 h7 h8 =>
    have e1 := firstN_at h6 h7 h8
    have e : faultP l = ((i : Int), 0, 143) := by
      unfold faultP
      rw [if_neg (by omega), if_neg (by omega), firstN_none h3, if_neg (by omega), firstN_none h4, if_neg (by omega), firstN_none h5, if_neg (by omega), e1, if_pos (by omega)]
    exact key e.symm (fun h => by rw [e] at h; cases h) (fun _ => rfl)
  | fine h1 h2 h3 h4 h5 h6 =>
    have e : faultP l = (0, 0, 0) := by
      unfold faultP
      rw [if_neg (by omega), if_neg (by omega), firstN_none h3, if_neg (by omega), firstN_none h4, if_neg (by omega), firstN_none h5, if_neg (by omega), firstN_none h6, if_neg (by omega)]
    exact key e.symm (fun _ => rfl) (fun h => absurd (by rw [e]) h)
end Go.Ck
end

section

namespace Go.Proofs.Ytjepgpocmnijiaa
open Go.RowKit Go.Mp Go.Ck
set_option linter.unusedVariables false
set_option maxRecDepth 100000
set_option maxHeartbeats 8000000
end Go.Proofs.Ytjepgpocmnijiaa
end
