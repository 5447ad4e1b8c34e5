/- Nested arguments opened with their measure: what reads as y has a measure that the bulk bounds. Of no program but for the seat's uptoBulk. -/
import Derived.WalkKit
import Derived.ProofKit
import Derived.OpenShut
import Derived.Deep.Slices
import Derived.Deep.Fields
import Derived.WalkLawsBesides
import Derived.Test.YtjepgpocmnijiaaRows
section
/- How arguments with depth read: texts, numbers, lists of these, structs of these, lists of structs: one word for each, what keeps it, and how it is opened. Of no program. -/
namespace Go.Rd
open Go.ChangeShapes Go.WideShapes Go.ChangeAt Go.RowKit
set_option linter.unusedVariables false

abbrev Cells := Nat → Option Value
def cellsAt (w : World) (b off : Nat) : Cells := fun j => w.cell? ⟨b, off + j, none⟩
/-- How an element reads: how many cells it has, and what they read as. -/
structure Elem (α : Type) where
  k : Nat
  R : World → Cells → α → Prop
  up : ∀ {w w' : World} {c c' : Cells} {x : α}, R w c x → Below w.heap.size w w' → (∀ j, j < k → c' j = c j) → R w' c' x
def SliceOf {α : Type} (E : Elem α) (w : World) (v : Value) (xs : List α) : Prop :=
  xs.length ≤ 140737488351232 ∧ ∃ ao cap, v = .slice ao xs.length cap ∧ xs.length ≤ cap ∧ (xs = [] ∨ ∃ b off, ao = some ⟨b, off, none⟩ ∧ b < w.heap.size ∧ ∀ i x, xs[i]? = some x → E.R w (cellsAt w b (off + i * E.k)) x)
theorem SliceOf.below {α : Type} {E : Elem α} {w w' : World} {v : Value} {xs : List α} (h : SliceOf E w v xs) (hb : Below w.heap.size w w') : SliceOf E w' v xs := by
  obtain ⟨hl, ao, cap, rfl, hc, h⟩ := h
  refine ⟨hl, ao, cap, rfl, hc, ?_⟩
  rcases h with h | ⟨b, off, rfl, hb', hx⟩
  · exact .inl h
  · exact .inr ⟨b, off, rfl, Nat.lt_of_lt_of_le hb' hb.size, fun i x hi => E.up (hx i x hi) hb (fun j _ => hb.cell (by exact hb'))⟩
/-- The list's place in memory, where it has an element. -/
theorem SliceOf.at {α : Type} {E : Elem α} {w : World} {v : Value} {xs : List α} (h : SliceOf E w v xs) (hne : xs ≠ []) : ∃ b off cap, v = .slice (some ⟨b, off, none⟩) xs.length cap ∧ b < w.heap.size ∧ ∀ i x, xs[i]? = some x → E.R w (cellsAt w b (off + i * E.k)) x := by
  obtain ⟨_, ao, cap, rfl, _, h⟩ := h
  obtain ⟨b, off, rfl, hb, hx⟩ := h.resolve_left hne
  exact ⟨b, off, cap, rfl, hb, hx⟩

def str : Elem ByteArray := ⟨1, fun _ c s => c 0 = some (.string s) ∧ s.size ≤ maxLen, fun h _ hc => ⟨(hc 0 (by decide)).trans h.1, h.2⟩⟩
def int : Elem Int := ⟨1, fun _ c n => c 0 = some (.int .i64 n) ∧ -9223372036854775808 ≤ n ∧ n ≤ 9223372036854775807, fun h _ hc => ⟨(hc 0 (by decide)).trans h.1, h.2⟩⟩
def u64 : Elem Int := ⟨1, fun _ c n => c 0 = some (.int .u64 n) ∧ 0 ≤ n ∧ n ≤ 18446744073709551615, fun h _ hc => ⟨(hc 0 (by decide)).trans h.1, h.2⟩⟩
def bool : Elem Bool := ⟨1, fun _ c n => c 0 = some (.bool n), fun h _ hc => (hc 0 (by decide)).trans h⟩
def float : Elem Nat := ⟨1, fun _ c n => c 0 = some (.float .f64 n) ∧ n < 18446744073709551616, fun h _ hc => ⟨(hc 0 (by decide)).trans h.1, h.2⟩⟩
def slice {α : Type} (E : Elem α) : Elem (List α) := ⟨1, fun w c xs => ∃ v, c 0 = some v ∧ SliceOf E w v xs, fun ⟨v, h1, h2⟩ hb hc => ⟨v, (hc 0 (by decide)).trans h1, h2.below hb⟩⟩
def none : Elem Unit := ⟨0, fun _ _ _ => True, fun _ _ _ => trivial⟩
def pair {α β : Type} (E : Elem α) (F : Elem β) : Elem (α × β) := ⟨E.k + F.k, fun w c x => E.R w c x.1 ∧ F.R w (fun j => c (E.k + j)) x.2,
  fun h hb hc => ⟨E.up h.1 hb (fun j hj => hc j (by omega)), F.up h.2 hb (fun j hj => hc (E.k + j) (by omega))⟩⟩

/-! ### Opening -/
section
variable {P : Program}
def Fits {H : Type} (P : Program) (t : TypeId) (d : DataW H) : Prop := ∀ n ∈ d.weights P t, n ≤ reachBytes
def Opens {α : Type} (P : Program) (E : Elem α) (t : TypeId) : Prop := ∀ {H : Type} {enc : TypeId × Value → H} {w : World} {n : Nat} {cs : List Value} {x : DataW H × List MemPlace},
  DataW.trod enc P w 0 (fun _ => true) true n t cs = some x → Fits P t x.1 → ∃ y, ∀ c : Cells, (∀ j, j < E.k → c j = cs[j]?) → E.R w c y
theorem opens_str {t : TypeId} (ht : P.underlying t = some .string) : Opens P str t := by
  intro H enc w n cs x h _
  cases n with
  | zero => simp [DataW.trod] at h
  | succ n =>
    unfold DataW.trod at h
    rw [ht] at h
    split at h <;> simp_all
    exact ⟨_, fun c hc => ⟨by rw [hc 0 (by decide)]; rfl, h.1⟩⟩
theorem opens_int {t : TypeId} (ht : P.underlying t = some (.int .i64)) : Opens P int t := by
  intro H enc w n cs x h _
  obtain ⟨a, e0, _, wa⟩ := DataW.trod_int ht h
  subst e0
  exact ⟨a, fun c hc => ⟨by rw [hc 0 (by decide)]; rfl, bounds_i64 wa⟩⟩
theorem opens_u64 {t : TypeId} (ht : P.underlying t = some (.int .u64)) : Opens P u64 t := by
  intro H enc w n cs x h _
  obtain ⟨a, e0, _, wa⟩ := DataW.trod_int ht h
  subst e0
  refine ⟨a, fun c hc => ⟨by rw [hc 0 (by decide)]; rfl, ?_⟩⟩
  exact bounds_u64 wa
theorem opens_bool {t : TypeId} (ht : P.underlying t = some .bool) : Opens P bool t := by
  intro H enc w n cs x h _
  have hb : ∃ b, cs = [.bool b] := by
    cases n with
    | zero => simp [DataW.trod] at h
    | succ n =>
      unfold DataW.trod at h
      rw [ht] at h
      split at h <;> first | exact ⟨_, rfl⟩ | simp_all
  obtain ⟨b, rfl⟩ := hb
  exact ⟨b, fun c hc => by show c 0 = some (.bool b); rw [hc 0 (by decide)]; rfl⟩
theorem opens_float {t : TypeId} (ht : P.underlying t = some (.float .f64)) : Opens P float t := by
  intro H enc w n cs x h _
  have hb : ∃ b, cs = [.float .f64 b] ∧ b < 18446744073709551616 := by
    cases n with
    | zero => simp [DataW.trod] at h
    | succ n =>
      rcases cs with _ | ⟨V, _ | ⟨V2, r⟩⟩
      · simp [DataW.trod, ht] at h
      · simp only [DataW.trod, ht] at h
        cases V <;> simp at h
        obtain ⟨⟨rfl, hw⟩, _⟩ := h
        exact ⟨_, rfl, by simpa [Lit.wf] using hw⟩
      · simp [DataW.trod, ht] at h
  obtain ⟨b, rfl, hb⟩ := hb
  exact ⟨b, fun c hc => ⟨by rw [hc 0 (by decide)]; rfl, hb⟩⟩
theorem list_of {α : Type} {Q : Nat → α → Prop} : ∀ n, (∀ i, i < n → ∃ y, Q i y) → ∃ l : List α, l.length = n ∧ ∀ i x, l[i]? = some x → Q i x
  | 0, _ => ⟨[], rfl, fun i x h => by simp at h⟩
  | n + 1, h => by
    obtain ⟨l, hl, hq⟩ := list_of n (fun i hi => h i (by omega))
    obtain ⟨y, hy⟩ := h n (by omega)
    refine ⟨l ++ [y], by simp [hl], fun i x hx => ?_⟩
    rcases Nat.lt_or_ge i n with h1 | h1
    · rw [List.getElem?_append_left (by omega)] at hx; exact hq i x hx
    · rw [List.getElem?_append_right (by omega)] at hx
      have : i - l.length = 0 := by
        rcases Nat.eq_zero_or_pos (i - l.length) with h2 | h2
        · exact h2
        · rw [List.getElem?_eq_none (by simp; omega)] at hx; cases hx
      rw [this] at hx
      simp at hx
      subst hx
      have : i = n := by omega
      rw [this]; exact hy
theorem opens_slice {α : Type} {E : Elem α} {t e : TypeId} (ht : P.underlying t = some (.slice e)) (hk : P.cellsOf e = E.k) {nb : Nat} (hb0 : P.bytesOf e = nb) (hb1 : 1 ≤ nb) (hE0 : 0 < E.k) (hE : Opens P E e) : Opens P (slice E) t := by
  intro H enc w n cs x h hf
  have hb : 1 ≤ P.bytesOf e := by rw [hb0]; exact hb1
  rcases Deep.open_slice ht h with ⟨hcs, hx⟩ | ⟨a, len, cap, m, n', D, Pl, hcs, _, hl, hm, hmm, hx, hel⟩
  · subst hcs
    exact ⟨[], fun c hc => ⟨_, by rw [hc 0 Nat.one_pos]; rfl, Nat.zero_le _, _, _, rfl, Nat.zero_le _, .inl rfl⟩⟩
  · subst hcs
    simp only [if_true] at hmm
    subst hmm
    rw [hk] at hel
    rw [hx] at hf
    have hfe : ∀ i, i < len → Fits P e (D i) := fun i hi k hk' => by
      refine hf k ?_
      simp only [DataW.weights, ht]
      refine List.mem_cons_of_mem _ (List.mem_append_left _ ?_)
      have : ∀ (l : List (DataW H)) (d : DataW H), d ∈ l → k ∈ d.weights P e → k ∈ DataW.weightsAll P e l := by
        intro l d hd hk2
        induction l with
        | nil => cases hd
        | cons q r ih =>
          simp only [DataW.weightsAll, List.mem_append]
          rcases List.mem_cons.1 hd with rfl | hd
          · exact .inl hk2
          · exact .inr (ih hd)
      exact this _ (D i) (List.mem_map.2 ⟨i, List.mem_range.2 hi, rfl⟩) hk'
    have hlen : len ≤ 140737488351232 := by
      have := hf ((((List.range len).map D).length + ((List.range (m - len)).map fun j => D (len + j)).length) * P.bytesOf e) (by simp [DataW.weights, ht])
      simp only [List.length_map, List.length_range, reachBytes] at this
      have h2 : len * 1 ≤ (len + (m - len)) * P.bytesOf e := Nat.mul_le_mul (by omega) hb
      omega
    have hy : ∀ i, i < len → ∃ y, ∀ b off, a = ⟨b, off, .none⟩ → E.R w (cellsAt w b (off + i * E.k)) y := fun i hi => by
      obtain ⟨cs', h1, h2⟩ := hel i (by omega)
      obtain ⟨y, hy⟩ := hE h2 (hfe i hi)
      refine ⟨y, fun b off ha => hy _ fun j hj => ?_⟩
      obtain ⟨_, hcl, h3⟩ := World.cells?_some h1
      have := h3 j hj
      subst ha
      have e1 : (⟨b, off, .none⟩ : Addr).add (i * E.k) = ⟨b, off + i * E.k, .none⟩ := by unfold Addr.add; split <;> simp_all
      have e2 : (⟨b, off + i * E.k, .none⟩ : Addr).add j = ⟨b, off + i * E.k + j, .none⟩ := by unfold Addr.add; split <;> simp_all
      rw [e1, e2] at this
      exact this
    obtain ⟨l, hll, hlq⟩ := list_of len hy
    rcases Nat.eq_zero_or_pos len with h0 | h0
    · subst h0
      exact ⟨[], fun c hc => ⟨_, by rw [hc 0 Nat.one_pos]; rfl, Nat.zero_le _, _, _, rfl, Nat.zero_le _, .inl rfl⟩⟩
    · obtain ⟨b, off, spot⟩ := a
      have h00 : ∃ v, w.cell? ((⟨b, off, spot⟩ : Addr).add 0) = some v := by
        obtain ⟨cs', h1, _⟩ := hel 0 (by omega)
        obtain ⟨_, hcl, h3⟩ := World.cells?_some h1
        have := h3 0 (by omega)
        rw [Nat.zero_mul] at this
        have hc0 : (0 : Nat) < cs'.length := by omega
        refine ⟨cs'[0], ?_⟩
        rw [← List.getElem?_eq_getElem hc0, ← this]
        cases spot <;> simp [Addr.add]
      obtain ⟨v0, h00⟩ := h00
      have hspot : spot = .none := by
        cases spot with
        | none => rfl
        | some s => simp [Addr.add, World.cell?] at h00; split at h00 <;> simp at h00
      subst hspot
      exact ⟨l, fun c hc => ⟨_, by rw [hc 0 Nat.one_pos]; rfl, by rw [hll]; exact hlen, some ⟨b, off, .none⟩, m, by rw [hll], by omega, .inr ⟨b, off, rfl, World.block_lt_of_cell? w _ h00, fun i x hi => hlq i x hi b off rfl⟩⟩⟩

/-- The fields of a struct, one behind the other. -/
def OpensF {α : Type} (P : Program) (E : Elem α) (o : Nat) (fs : List Go.Field) : Prop := ∀ {H : Type} {enc : TypeId × Value → H} {w : World} {n : Nat} {cs : List Value} {ys : List (DataW H × List MemPlace)},
  (∀ (i : Nat) (f : Go.Field), fs[i]? = some f → ∃ y, ys[i]? = some y ∧ DataW.trod enc P w 0 (fun _ => true) true n f.type ((cs.drop f.offset).take (P.cellsOf f.type)) = some y) →
  (∀ k ∈ DataW.weightsEach P (fs.map (·.type)) (ys.map (·.1)), k ≤ reachBytes) → ys.length = fs.length → ∃ y, ∀ c : Cells, (∀ j, j < E.k → c j = cs[o + j]?) → E.R w c y
theorem opensF_nil (o : Nat) : OpensF P none o [] := by
  intro H enc w n cs ys _ _ _
  exact ⟨(), fun c hc => trivial⟩
theorem opensF_cons {α β : Type} {E : Elem α} {F : Elem β} {o : Nat} {f : Go.Field} {fs : List Go.Field} (ho : f.offset = o) (hk : P.cellsOf f.type = E.k) (hE : Opens P E f.type) (hF : OpensF P F (o + E.k) fs) : OpensF P (pair E F) o (f :: fs) := by
  intro H enc w n cs ys hys hw hl
  cases ys with
  | nil => simp at hl
  | cons y0 ys =>
    obtain ⟨y, h1, h2⟩ := hys 0 f rfl
    simp at h1
    subst h1
    rw [ho, hk] at h2
    obtain ⟨a, ha⟩ := hE h2 (fun k hk => hw k (by simp [DataW.weightsEach, hk]))
    obtain ⟨b, hb⟩ := hF (enc := enc) (w := w) (n := n) (cs := cs) (ys := ys) (fun i f' hf' => by
      obtain ⟨y, h1, h2⟩ := hys (i + 1) f' hf'
      exact ⟨y, by simpa using h1, h2⟩) (fun k hk => hw k (by simp only [List.map_cons, DataW.weightsEach, List.mem_append]; exact .inr hk)) (by simpa using hl)
    refine ⟨(a, b), fun c hc => ⟨ha c fun j hj => ?_, hb _ fun j hj => ?_⟩⟩
    · rw [hc j (show j < E.k + F.k by omega), List.getElem?_take, if_pos hj, List.getElem?_drop]
    · show c (E.k + j) = _
      rw [hc (E.k + j) (show E.k + j < E.k + F.k by omega), Nat.add_assoc]
theorem opens_struct {α : Type} {E : Elem α} {t : TypeId} {fs : Array Go.Field} (ht : P.underlying t = some (.struct fs)) (hF : OpensF P E 0 fs.toList) : Opens P E t := by
  intro H enc w n cs x h hf
  obtain ⟨ys, n', hn, hx, hl, hlen, hg⟩ := DataW.trod_struct ht h
  subst hx
  obtain ⟨y, hy⟩ := hF (enc := enc) (w := w) (n := n') (cs := cs) (ys := ys) (fun i f hi => by
    have h1 := hg i f (by simpa using hi)
    have hil : i < ys.length := by
      have := (List.getElem?_eq_some_iff.1 hi).1
      rw [hlen]; simpa using this
    exact ⟨ys[i], List.getElem?_eq_getElem hil, h1.trans (List.getElem?_eq_getElem hil)⟩) (fun k hk => hf k (by simpa [DataW.weights, ht] using hk)) (by simpa using hlen)
  exact ⟨y, fun c hc => hy c fun j hj => by rw [hc j hj, Nat.zero_add]⟩
/-- An argument of a law, opened. -/
theorem open_arg {α : Type} {E : Elem α} {t : TypeId} (hO : Opens P E t) {H : Type} {enc : TypeId × Value → H} {w : World} {v : Value} {d : DataW H} {pl : List MemPlace} {ts : List TypeId} {ds : List (DataW H)} {j : Nat}
    (hd : DataW.Trod enc P w 0 (fun _ => true) true t v d pl) (hsz : (DataW.weightsEach P ts ds).all (· ≤ reachBytes) = true) (hts : ts[j]? = some t) (hds : ds[j]? = some d) : ∃ y, E.R w (fun j => v.cells[j]?) y := by
  obtain ⟨n, h⟩ := hd
  obtain ⟨y, hy⟩ := hO h (fun k hk => by
    have := List.all_eq_true.1 hsz k (DataW.weights_mem_each hts hds k hk)
    simpa using this)
  exact ⟨y, hy _ fun j _ => by simp⟩
end
end Go.Rd
end

section
/-
  FOR A PROOF OF AN '..UptoSaid': WHAT THE BOUND GIVES. Copy it as <Name>Bulk.lean (put your seat's Name for Ytjepgpocmnijiaa, the bound of 'uptoSmall' for 1048576), name it in GOCLAIM.json's 'order' behind <Name>Rows. By an AI agent, Sun Nov 15 2026. No person has read it. No macro, syntax, notation, axiom, sorry.
-/
namespace Go.Proofs.Ytjepgpocmnijiaa.bulks

theorem one_le {H : Type} (d : DataW H) : 1 ≤ Rows.uptoBulk d := by
  cases d with
  | lit l => cases l <;> simp [Rows.uptoBulk]
  | nil => simp [Rows.uptoBulk]
  | ptr d => simp [Rows.uptoBulk]
  | slice elems spare => simp [Rows.uptoBulk]
  | agg parts => simp [Rows.uptoBulk]
  | iface t d => simp [Rows.uptoBulk]
  | map entries => simp [Rows.uptoBulk]
  | held h => simp [Rows.uptoBulk]

/-- a part's bulk is at most the whole's -/
theorem part_le {H : Type} {d : DataW H} {l : List (DataW H)} (h : d ∈ l) : Rows.uptoBulk d ≤ Rows.uptoBulkAll l := by
  induction l with
  | nil => cases h
  | cons x r ih =>
    simp only [Rows.uptoBulkAll]
    cases List.mem_cons.1 h with
    | inl e => subst e; omega
    | inr e => have := ih e; omega

theorem append {H : Type} (l r : List (DataW H)) : Rows.uptoBulkAll (l ++ r) = Rows.uptoBulkAll l + Rows.uptoBulkAll r := by
  induction l with
  | nil => simp [Rows.uptoBulkAll]
  | cons x l ih => simp only [List.cons_append, Rows.uptoBulkAll, ih]; omega

/-- so many values at the most -/
theorem length_le {H : Type} (l : List (DataW H)) : l.length ≤ Rows.uptoBulkAll l := by
  induction l with
  | nil => simp [Rows.uptoBulkAll]
  | cons x r ih => have := one_le x; simp only [Rows.uptoBulkAll, List.length_cons]; omega

/-- a slice's places, and what they hold -/
theorem slice_le {H : Type} (elems spare : List (DataW H)) : elems.length + spare.length + 1 ≤ Rows.uptoBulk (.slice elems spare) := by
  have h1 := length_le elems
  have h2 := length_le spare
  simp only [Rows.uptoBulk]
  omega
theorem slice_elems {H : Type} (elems spare : List (DataW H)) : Rows.uptoBulkAll elems + 1 ≤ Rows.uptoBulk (.slice elems spare) := by
  simp only [Rows.uptoBulk]
  omega

/-- a string's letters -/
theorem string_eq {H : Type} (bytes : List UInt8) : Rows.uptoBulk (DataW.lit (H := H) (.string bytes)) = bytes.length + 1 := by
  simp [Rows.uptoBulk]

/-- THE BOUND, as the builder hands it over ('hk') -/
theorem bound {H : Type} {l : List (DataW H)} (hk : Rows.uptoSmall H l = true) : Rows.uptoBulkAll l ≤ 1048576 := by
  simpa [Rows.uptoSmall] using hk

/-- ROOM: a slice of n elements of b bytes, grown by append: below the 2^48 bytes that append, make and a Builder bear. Here n up to 2^21, b up to 4,096: put your own numbers. -/
theorem room {n b : Nat} (hn : n ≤ 2097152) (hb : b ≤ 4096) : (n + n / 4 + 192) * b ≤ 281474976710656 := by
  have h : (n + n / 4 + 192) * b ≤ 2621632 * 4096 := Nat.mul_le_mul (by omega) hb
  omega

end Go.Proofs.Ytjepgpocmnijiaa.bulks
end

section

namespace Go.Proofs.Ytjepgpocmnijiaa.rdBulk
open Go.ChangeShapes Go.WideShapes Go.ChangeAt Go.RowKit
open Go.Rd
set_option linter.unusedVariables false
section
variable {P : Program}
def OpensM {α : Type} (P : Program) (E : Elem α) (t : TypeId) (m : α → Nat) : Prop := ∀ {H : Type} {enc : TypeId × Value → H} {w : World} {n : Nat} {cs : List Value} {x : DataW H × List MemPlace},
  DataW.trod enc P w 0 (fun _ => true) true n t cs = some x → Fits P t x.1 → ∃ y, (∀ c : Cells, (∀ j, j < E.k → c j = cs[j]?) → E.R w c y) ∧ m y ≤ Rows.uptoBulk x.1
theorem opensM_of {α : Type} {E : Elem α} {t : TypeId} (h : Opens P E t) : OpensM P E t (fun _ => 1) := by
  intro H enc w n cs x hx hf
  obtain ⟨y, hy⟩ := h hx hf
  exact ⟨y, hy, bulks.one_le _⟩
theorem opensM_str {t : TypeId} (ht : P.underlying t = some .string) : OpensM P str t (fun s => s.size + 1) := by
  intro H enc w n cs x h _
  cases n with
  | zero => simp [DataW.trod] at h
  | succ n =>
    unfold DataW.trod at h
    rw [ht] at h
    split at h <;> simp_all
    obtain ⟨h1, h2⟩ := h
    subst h2
    refine ⟨_, fun c hc => ⟨by rw [hc 0 (by decide)]; rfl, h1⟩, ?_⟩
    rw [bulks.string_eq, Array.length_toList]
    exact Nat.le_refl _
theorem list_ofM {α : Type} {Q : Nat → α → Prop} {m : α → Nat} {f : Nat → Nat} : ∀ n, (∀ i, i < n → ∃ y, Q i y ∧ m y ≤ f i) → ∃ l : List α, l.length = n ∧ (∀ i x, l[i]? = some x → Q i x) ∧ (l.map m).sum ≤ ((List.range n).map f).sum
  | 0, _ => ⟨[], rfl, fun i x h => by simp at h, by simp⟩
  | n + 1, h => by
    obtain ⟨l, hl, hq, hs⟩ := list_ofM n (fun i hi => h i (by omega))
    obtain ⟨y, hy, hm⟩ := h n (by omega)
    refine ⟨l ++ [y], by simp [hl], fun i x hx => ?_, ?_⟩
    · rcases Nat.lt_or_ge i n with h1 | h1
      · rw [List.getElem?_append_left (by omega)] at hx; exact hq i x hx
      · rw [List.getElem?_append_right (by omega)] at hx
        have : i - l.length = 0 := by
          rcases Nat.eq_zero_or_pos (i - l.length) with h2 | h2
          · exact h2
          · rw [List.getElem?_eq_none (by simp; omega)] at hx; cases hx
        rw [this] at hx
        simp at hx
        subst hx
        have : i = n := by omega
        rw [this]; exact hy
    · rw [List.range_succ]
      simp only [List.map_append, List.sum_append, List.map_cons, List.map_nil, List.sum_cons, List.sum_nil]
      omega
theorem bulkAll_sum {H : Type} : ∀ l : List (DataW H), Rows.uptoBulkAll l = (l.map Rows.uptoBulk).sum
  | [] => rfl
  | d :: l => by simp only [Rows.uptoBulkAll, bulkAll_sum l, List.map_cons, List.sum_cons]
theorem opensM_slice {α : Type} {E : Elem α} {t e : TypeId} {m : α → Nat} (ht : P.underlying t = some (.slice e)) (hk : P.cellsOf e = E.k) {nb : Nat} (hb0 : P.bytesOf e = nb) (hb1 : 1 ≤ nb) (hE0 : 0 < E.k) (hE : OpensM P E e m) : OpensM P (slice E) t (fun l => (l.map m).sum + 1) := by
  intro H enc w n cs x h hf
  have hb : 1 ≤ P.bytesOf e := by rw [hb0]; exact hb1
  rcases Deep.open_slice ht h with ⟨hcs, hx⟩ | ⟨a, len, cap, q, n', D, Pl, hcs, _, hl, hm, hmm, hx, hel⟩
  · subst hcs
    exact ⟨[], fun c hc => ⟨_, by rw [hc 0 Nat.one_pos]; rfl, Nat.zero_le _, _, _, rfl, Nat.zero_le _, .inl rfl⟩, bulks.one_le _⟩
  · subst hcs
    simp only [if_true] at hmm
    subst hmm
    rw [hk] at hel
    have hbk := bulks.slice_elems ((List.range len).map D) ((List.range (q - len)).map fun j => D (len + j))
    have hxb : x.1 = .slice ((List.range len).map D) ((List.range (q - len)).map fun j => D (len + j)) := by rw [hx]
    rw [← hxb, bulkAll_sum, List.map_map] at hbk
    rw [hx] at hf
    have hfe : ∀ i, i < len → Fits P e (D i) := fun i hi k hk' => by
      refine hf k ?_
      simp only [DataW.weights, ht]
      refine List.mem_cons_of_mem _ (List.mem_append_left _ ?_)
      have : ∀ (l : List (DataW H)) (d : DataW H), d ∈ l → k ∈ d.weights P e → k ∈ DataW.weightsAll P e l := by
        intro l d hd hk2
        induction l with
        | nil => cases hd
        | cons q r ih =>
          simp only [DataW.weightsAll, List.mem_append]
          rcases List.mem_cons.1 hd with rfl | hd
          · exact .inl hk2
          · exact .inr (ih hd)
      exact this _ (D i) (List.mem_map.2 ⟨i, List.mem_range.2 hi, rfl⟩) hk'
    have hlen : len ≤ 140737488351232 := by
      have := hf ((((List.range len).map D).length + ((List.range (q - len)).map fun j => D (len + j)).length) * P.bytesOf e) (by simp [DataW.weights, ht])
      simp only [List.length_map, List.length_range, reachBytes] at this
      have h2 : len * 1 ≤ (len + (q - len)) * P.bytesOf e := Nat.mul_le_mul (by omega) hb
      omega
    have hy : ∀ i, i < len → ∃ y, (∀ b off, a = ⟨b, off, .none⟩ → E.R w (cellsAt w b (off + i * E.k)) y) ∧ m y ≤ (Rows.uptoBulk ∘ D) i := fun i hi => by
      obtain ⟨cs', h1, h2⟩ := hel i (by omega)
      obtain ⟨y, hy, hmy⟩ := hE h2 (hfe i hi)
      refine ⟨y, fun b off ha => hy _ fun j hj => ?_, hmy⟩
      obtain ⟨_, hcl, h3⟩ := World.cells?_some h1
      have := h3 j hj
      subst ha
      have e1 : (⟨b, off, .none⟩ : Addr).add (i * E.k) = ⟨b, off + i * E.k, .none⟩ := by unfold Addr.add; split <;> simp_all
      have e2 : (⟨b, off + i * E.k, .none⟩ : Addr).add j = ⟨b, off + i * E.k + j, .none⟩ := by unfold Addr.add; split <;> simp_all
      rw [e1, e2] at this
      exact this
    obtain ⟨l, hll, hlq, hls⟩ := list_ofM len hy
    rcases Nat.eq_zero_or_pos len with h0 | h0
    · subst h0
      exact ⟨[], fun c hc => ⟨_, by rw [hc 0 Nat.one_pos]; rfl, Nat.zero_le _, _, _, rfl, Nat.zero_le _, .inl rfl⟩, bulks.one_le _⟩
    · obtain ⟨b, off, spot⟩ := a
      have h00 : ∃ v, w.cell? ((⟨b, off, spot⟩ : Addr).add 0) = some v := by
        obtain ⟨cs', h1, _⟩ := hel 0 (by omega)
        obtain ⟨_, hcl, h3⟩ := World.cells?_some h1
        have := h3 0 (by omega)
        rw [Nat.zero_mul] at this
        have hc0 : (0 : Nat) < cs'.length := by omega
        refine ⟨cs'[0], ?_⟩
        rw [← List.getElem?_eq_getElem hc0, ← this]
        cases spot <;> simp [Addr.add]
      obtain ⟨v0, h00⟩ := h00
      have hspot : spot = .none := by
        cases spot with
        | none => rfl
        | some s => simp [Addr.add, World.cell?] at h00; split at h00 <;> simp at h00
      subst hspot
      exact ⟨l, fun c hc => ⟨_, by rw [hc 0 Nat.one_pos]; rfl, by rw [hll]; exact hlen, some ⟨b, off, .none⟩, q, by rw [hll], by omega, .inr ⟨b, off, rfl, World.block_lt_of_cell? w _ h00, fun i x hi => hlq i x hi b off rfl⟩⟩, by show (l.map m).sum + 1 ≤ _; omega⟩

def OpensFM {α : Type} (P : Program) (E : Elem α) (o : Nat) (fs : List Go.Field) (m : α → Nat) : Prop := ∀ {H : Type} {enc : TypeId × Value → H} {w : World} {n : Nat} {cs : List Value} {ys : List (DataW H × List MemPlace)},
  (∀ (i : Nat) (f : Go.Field), fs[i]? = some f → ∃ y, ys[i]? = some y ∧ DataW.trod enc P w 0 (fun _ => true) true n f.type ((cs.drop f.offset).take (P.cellsOf f.type)) = some y) →
  (∀ k ∈ DataW.weightsEach P (fs.map (·.type)) (ys.map (·.1)), k ≤ reachBytes) → ys.length = fs.length → ∃ y, (∀ c : Cells, (∀ j, j < E.k → c j = cs[o + j]?) → E.R w c y) ∧ m y ≤ Rows.uptoBulkAll (ys.map (·.1))
theorem opensFM_nil (o : Nat) : OpensFM P Rd.none o [] (fun _ => 0) := by
  intro H enc w n cs ys _ _ _
  exact ⟨(), fun c hc => trivial, Nat.zero_le _⟩
theorem opensFM_cons {α β : Type} {E : Elem α} {F : Elem β} {o : Nat} {f : Go.Field} {fs : List Go.Field} {m1 : α → Nat} {m2 : β → Nat} (ho : f.offset = o) (hk : P.cellsOf f.type = E.k) (hE : OpensM P E f.type m1) (hF : OpensFM P F (o + E.k) fs m2) : OpensFM P (pair E F) o (f :: fs) (fun x => m1 x.1 + m2 x.2) := by
  intro H enc w n cs ys hys hw hl
  cases ys with
  | nil => simp at hl
  | cons y0 ys =>
    obtain ⟨y, h1, h2⟩ := hys 0 f rfl
    simp at h1
    subst h1
    rw [ho, hk] at h2
    obtain ⟨a, ha, hma⟩ := hE h2 (fun k hk => hw k (by simp [DataW.weightsEach, hk]))
    obtain ⟨b, hb, hmb⟩ := hF (enc := enc) (w := w) (n := n) (cs := cs) (ys := ys) (fun i f' hf' => by
      obtain ⟨y, h1, h2⟩ := hys (i + 1) f' hf'
      exact ⟨y, by simpa using h1, h2⟩) (fun k hk => hw k (by simp only [List.map_cons, DataW.weightsEach, List.mem_append]; exact .inr hk)) (by simpa using hl)
    refine ⟨(a, b), fun c hc => ⟨ha c fun j hj => ?_, hb _ fun j hj => ?_⟩, ?_⟩
    · rw [hc j (show j < E.k + F.k by omega), List.getElem?_take, if_pos hj, List.getElem?_drop]
    · show c (E.k + j) = _
      rw [hc (E.k + j) (show E.k + j < E.k + F.k by omega), Nat.add_assoc]
    · show m1 a + m2 b ≤ _
      simp only [List.map_cons, Rows.uptoBulkAll]
      omega
theorem agg_le {H : Type} (l : List (DataW H)) : Rows.uptoBulkAll l ≤ Rows.uptoBulk (.agg l) := by
  simp only [Rows.uptoBulk]
  omega
theorem opensM_struct {α : Type} {E : Elem α} {t : TypeId} {fs : Array Go.Field} {m : α → Nat} (ht : P.underlying t = some (.struct fs)) (hF : OpensFM P E 0 fs.toList m) : OpensM P E t m := by
  intro H enc w n cs x h hf
  obtain ⟨ys, n', hn, hx, hl, hlen, hg⟩ := DataW.trod_struct ht h
  subst hx
  obtain ⟨y, hy, hmy⟩ := hF (enc := enc) (w := w) (n := n') (cs := cs) (ys := ys) (fun i f hi => by
    have h1 := hg i f (by simpa using hi)
    have hil : i < ys.length := by
      have := (List.getElem?_eq_some_iff.1 hi).1
      rw [hlen]; simpa using this
    exact ⟨ys[i], List.getElem?_eq_getElem hil, h1.trans (List.getElem?_eq_getElem hil)⟩) (fun k hk => hf k (by simpa [DataW.weights, ht] using hk)) (by simpa using hlen)
  exact ⟨y, fun c hc => hy c fun j hj => by rw [hc j hj, Nat.zero_add], Nat.le_trans hmy (agg_le _)⟩
/-- An argument of a law, opened, with its measure. -/
theorem openM_arg {α : Type} {E : Elem α} {t : TypeId} {m : α → Nat} (hO : OpensM P E t m) {H : Type} {enc : TypeId × Value → H} {w : World} {v : Value} {d : DataW H} {pl : List MemPlace} {ts : List TypeId} {ds : List (DataW H)} {j : Nat}
    (hd : DataW.Trod enc P w 0 (fun _ => true) true t v d pl) (hsz : (DataW.weightsEach P ts ds).all (· ≤ reachBytes) = true) (hts : ts[j]? = some t) (hds : ds[j]? = some d) : ∃ y, E.R w (fun j => v.cells[j]?) y ∧ m y ≤ Rows.uptoBulk d := by
  obtain ⟨n, h⟩ := hd
  obtain ⟨y, hy, hm⟩ := hO h (fun k hk => by
    have := List.all_eq_true.1 hsz k (DataW.weights_mem_each hts hds k hk)
    simpa using this)
  exact ⟨y, hy _ fun j _ => by simp, hm⟩
end
end Go.Proofs.Ytjepgpocmnijiaa.rdBulk
end
