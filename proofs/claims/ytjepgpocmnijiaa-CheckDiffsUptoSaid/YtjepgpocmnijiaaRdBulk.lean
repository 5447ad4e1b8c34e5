/- Nested arguments opened with their measure: what reads as y has a measure that the bulk bounds. Of no program but for the seat's uptoBulk. -/
import Derived.Test.YtjepgpocmnijiaaRd
import Derived.Test.YtjepgpocmnijiaaBulk
namespace Go.Proofs.Ytjepgpocmnijiaa.rdBulk
open Go.ChangeShapes Go.WideShapes Go.ChangeAt Go.RowKit
open Go.Rd
set_option linter.unusedVariables false
section
variable {P : Program}
def OpensM {α : Type} (P : Program) (E : Elem α) (t : TypeId) (m : α → Nat) : Prop := ∀ {H : Type} {enc : TypeId × Value → H} {w : World} {n : Nat} {cs : List Value} {x : DataW H × List MemPlace},
  DataW.trod enc P w 0 (fun _ => true) true n t cs = some x → Fits P t x.1 → ∃ y, (∀ c : Cells, (∀ j, j < E.k → c j = cs[j]?) → E.R w c y) ∧ m y ≤ Rows.uptoBulk x.1
theorem opensM_of {α : Type} {E : Elem α} {t : TypeId} (h : Opens P E t) : OpensM P E t (fun _ => 1) := by
  intro H enc w n cs x hx hf
  obtain ⟨y, hy⟩ := h hx hf
  exact ⟨y, hy, bulks.one_le _⟩
theorem opensM_str {t : TypeId} (ht : P.underlying t = some .string) : OpensM P str t (fun s => s.size + 1) := by
  intro H enc w n cs x h _
  cases n with
  | zero => simp [DataW.trod] at h
  | succ n =>
    unfold DataW.trod at h
    rw [ht] at h
    split at h <;> simp_all
    obtain ⟨h1, h2⟩ := h
    subst h2
    refine ⟨_, fun c hc => ⟨by rw [hc 0 (by decide)]; rfl, h1⟩, ?_⟩
    rw [bulks.string_eq, Array.length_toList]
    exact Nat.le_refl _
theorem list_ofM {α : Type} {Q : Nat → α → Prop} {m : α → Nat} {f : Nat → Nat} : ∀ n, (∀ i, i < n → ∃ y, Q i y ∧ m y ≤ f i) → ∃ l : List α, l.length = n ∧ (∀ i x, l[i]? = some x → Q i x) ∧ (l.map m).sum ≤ ((List.range n).map f).sum
  | 0, _ => ⟨[], rfl, fun i x h => by simp at h, by simp⟩
  | n + 1, h => by
    obtain ⟨l, hl, hq, hs⟩ := list_ofM n (fun i hi => h i (by omega))
    obtain ⟨y, hy, hm⟩ := h n (by omega)
    refine ⟨l ++ [y], by simp [hl], fun i x hx => ?_, ?_⟩
    · rcases Nat.lt_or_ge i n with h1 | h1
      · rw [List.getElem?_append_left (by omega)] at hx; exact hq i x hx
      · rw [List.getElem?_append_right (by omega)] at hx
        have : i - l.length = 0 := by
          rcases Nat.eq_zero_or_pos (i - l.length) with h2 | h2
          · exact h2
          · rw [List.getElem?_eq_none (by simp; omega)] at hx; cases hx
        rw [this] at hx
        simp at hx
        subst hx
        have : i = n := by omega
        rw [this]; exact hy
    · rw [List.range_succ]
      simp only [List.map_append, List.sum_append, List.map_cons, List.map_nil, List.sum_cons, List.sum_nil]
      omega
theorem bulkAll_sum {H : Type} : ∀ l : List (DataW H), Rows.uptoBulkAll l = (l.map Rows.uptoBulk).sum
  | [] => rfl
  | d :: l => by simp only [Rows.uptoBulkAll, bulkAll_sum l, List.map_cons, List.sum_cons]
theorem opensM_slice {α : Type} {E : Elem α} {t e : TypeId} {m : α → Nat} (ht : P.underlying t = some (.slice e)) (hk : P.cellsOf e = E.k) {nb : Nat} (hb0 : P.bytesOf e = nb) (hb1 : 1 ≤ nb) (hE0 : 0 < E.k) (hE : OpensM P E e m) : OpensM P (slice E) t (fun l => (l.map m).sum + 1) := by
  intro H enc w n cs x h hf
  have hb : 1 ≤ P.bytesOf e := by rw [hb0]; exact hb1
  rcases Deep.open_slice ht h with ⟨hcs, hx⟩ | ⟨a, len, cap, q, n', D, Pl, hcs, _, hl, hm, hmm, hx, hel⟩
  · subst hcs
    exact ⟨[], fun c hc => ⟨_, by rw [hc 0 Nat.one_pos]; rfl, Nat.zero_le _, _, _, rfl, Nat.zero_le _, .inl rfl⟩, bulks.one_le _⟩
  · subst hcs
    simp only [if_true] at hmm
    subst hmm
    rw [hk] at hel
    have hbk := bulks.slice_elems ((List.range len).map D) ((List.range (q - len)).map fun j => D (len + j))
    have hxb : x.1 = .slice ((List.range len).map D) ((List.range (q - len)).map fun j => D (len + j)) := by rw [hx]
    rw [← hxb, bulkAll_sum, List.map_map] at hbk
    rw [hx] at hf
    have hfe : ∀ i, i < len → Fits P e (D i) := fun i hi k hk' => by
      refine hf k ?_
      simp only [DataW.weights, ht]
      refine List.mem_cons_of_mem _ (List.mem_append_left _ ?_)
      have : ∀ (l : List (DataW H)) (d : DataW H), d ∈ l → k ∈ d.weights P e → k ∈ DataW.weightsAll P e l := by
        intro l d hd hk2
        induction l with
        | nil => cases hd
        | cons q r ih =>
          simp only [DataW.weightsAll, List.mem_append]
          rcases List.mem_cons.1 hd with rfl | hd
          · exact .inl hk2
          · exact .inr (ih hd)
      exact this _ (D i) (List.mem_map.2 ⟨i, List.mem_range.2 hi, rfl⟩) hk'
    have hlen : len ≤ 140737488351232 := by
      have := hf ((((List.range len).map D).length + ((List.range (q - len)).map fun j => D (len + j)).length) * P.bytesOf e) (by simp [DataW.weights, ht])
      simp only [List.length_map, List.length_range, reachBytes] at this
      have h2 : len * 1 ≤ (len + (q - len)) * P.bytesOf e := Nat.mul_le_mul (by omega) hb
      omega
    have hy : ∀ i, i < len → ∃ y, (∀ b off, a = ⟨b, off, .none⟩ → E.R w (cellsAt w b (off + i * E.k)) y) ∧ m y ≤ (Rows.uptoBulk ∘ D) i := fun i hi => by
      obtain ⟨cs', h1, h2⟩ := hel i (by omega)
      obtain ⟨y, hy, hmy⟩ := hE h2 (hfe i hi)
      refine ⟨y, fun b off ha => hy _ fun j hj => ?_, hmy⟩
      obtain ⟨_, hcl, h3⟩ := World.cells?_some h1
      have := h3 j hj
      subst ha
      have e1 : (⟨b, off, .none⟩ : Addr).add (i * E.k) = ⟨b, off + i * E.k, .none⟩ := by unfold Addr.add; split <;> simp_all
      have e2 : (⟨b, off + i * E.k, .none⟩ : Addr).add j = ⟨b, off + i * E.k + j, .none⟩ := by unfold Addr.add; split <;> simp_all
      rw [e1, e2] at this
      exact this
    obtain ⟨l, hll, hlq, hls⟩ := list_ofM len hy
    rcases Nat.eq_zero_or_pos len with h0 | h0
    · subst h0
      exact ⟨[], fun c hc => ⟨_, by rw [hc 0 Nat.one_pos]; rfl, Nat.zero_le _, _, _, rfl, Nat.zero_le _, .inl rfl⟩, bulks.one_le _⟩
    · obtain ⟨b, off, spot⟩ := a
      have h00 : ∃ v, w.cell? ((⟨b, off, spot⟩ : Addr).add 0) = some v := by
        obtain ⟨cs', h1, _⟩ := hel 0 (by omega)
        obtain ⟨_, hcl, h3⟩ := World.cells?_some h1
        have := h3 0 (by omega)
        rw [Nat.zero_mul] at this
        have hc0 : (0 : Nat) < cs'.length := by omega
        refine ⟨cs'[0], ?_⟩
        rw [← List.getElem?_eq_getElem hc0, ← this]
        cases spot <;> simp [Addr.add]
      obtain ⟨v0, h00⟩ := h00
      have hspot : spot = .none := by
        cases spot with
        | none => rfl
        | some s => simp [Addr.add, World.cell?] at h00; split at h00 <;> simp at h00
      subst hspot
      exact ⟨l, fun c hc => ⟨_, by rw [hc 0 Nat.one_pos]; rfl, by rw [hll]; exact hlen, some ⟨b, off, .none⟩, q, by rw [hll], by omega, .inr ⟨b, off, rfl, World.block_lt_of_cell? w _ h00, fun i x hi => hlq i x hi b off rfl⟩⟩, by show (l.map m).sum + 1 ≤ _; omega⟩

def OpensFM {α : Type} (P : Program) (E : Elem α) (o : Nat) (fs : List Go.Field) (m : α → Nat) : Prop := ∀ {H : Type} {enc : TypeId × Value → H} {w : World} {n : Nat} {cs : List Value} {ys : List (DataW H × List MemPlace)},
  (∀ (i : Nat) (f : Go.Field), fs[i]? = some f → ∃ y, ys[i]? = some y ∧ DataW.trod enc P w 0 (fun _ => true) true n f.type ((cs.drop f.offset).take (P.cellsOf f.type)) = some y) →
  (∀ k ∈ DataW.weightsEach P (fs.map (·.type)) (ys.map (·.1)), k ≤ reachBytes) → ys.length = fs.length → ∃ y, (∀ c : Cells, (∀ j, j < E.k → c j = cs[o + j]?) → E.R w c y) ∧ m y ≤ Rows.uptoBulkAll (ys.map (·.1))
theorem opensFM_nil (o : Nat) : OpensFM P Rd.none o [] (fun _ => 0) := by
  intro H enc w n cs ys _ _ _
  exact ⟨(), fun c hc => trivial, Nat.zero_le _⟩
theorem opensFM_cons {α β : Type} {E : Elem α} {F : Elem β} {o : Nat} {f : Go.Field} {fs : List Go.Field} {m1 : α → Nat} {m2 : β → Nat} (ho : f.offset = o) (hk : P.cellsOf f.type = E.k) (hE : OpensM P E f.type m1) (hF : OpensFM P F (o + E.k) fs m2) : OpensFM P (pair E F) o (f :: fs) (fun x => m1 x.1 + m2 x.2) := by
  intro H enc w n cs ys hys hw hl
  cases ys with
  | nil => simp at hl
  | cons y0 ys =>
    obtain ⟨y, h1, h2⟩ := hys 0 f rfl
    simp at h1
    subst h1
    rw [ho, hk] at h2
    obtain ⟨a, ha, hma⟩ := hE h2 (fun k hk => hw k (by simp [DataW.weightsEach, hk]))
    obtain ⟨b, hb, hmb⟩ := hF (enc := enc) (w := w) (n := n) (cs := cs) (ys := ys) (fun i f' hf' => by
      obtain ⟨y, h1, h2⟩ := hys (i + 1) f' hf'
      exact ⟨y, by simpa using h1, h2⟩) (fun k hk => hw k (by simp only [List.map_cons, DataW.weightsEach, List.mem_append]; exact .inr hk)) (by simpa using hl)
    refine ⟨(a, b), fun c hc => ⟨ha c fun j hj => ?_, hb _ fun j hj => ?_⟩, ?_⟩
    · rw [hc j (show j < E.k + F.k by omega), List.getElem?_take, if_pos hj, List.getElem?_drop]
    · show c (E.k + j) = _
      rw [hc (E.k + j) (show E.k + j < E.k + F.k by omega), Nat.add_assoc]
    · show m1 a + m2 b ≤ _
      simp only [List.map_cons, Rows.uptoBulkAll]
      omega
theorem agg_le {H : Type} (l : List (DataW H)) : Rows.uptoBulkAll l ≤ Rows.uptoBulk (.agg l) := by
  simp only [Rows.uptoBulk]
  omega
theorem opensM_struct {α : Type} {E : Elem α} {t : TypeId} {fs : Array Go.Field} {m : α → Nat} (ht : P.underlying t = some (.struct fs)) (hF : OpensFM P E 0 fs.toList m) : OpensM P E t m := by
  intro H enc w n cs x h hf
  obtain ⟨ys, n', hn, hx, hl, hlen, hg⟩ := DataW.trod_struct ht h
  subst hx
  obtain ⟨y, hy, hmy⟩ := hF (enc := enc) (w := w) (n := n') (cs := cs) (ys := ys) (fun i f hi => by
    have h1 := hg i f (by simpa using hi)
    have hil : i < ys.length := by
      have := (List.getElem?_eq_some_iff.1 hi).1
      rw [hlen]; simpa using this
    exact ⟨ys[i], List.getElem?_eq_getElem hil, h1.trans (List.getElem?_eq_getElem hil)⟩) (fun k hk => hf k (by simpa [DataW.weights, ht] using hk)) (by simpa using hlen)
  exact ⟨y, fun c hc => hy c fun j hj => by rw [hc j hj, Nat.zero_add], Nat.le_trans hmy (agg_le _)⟩
/-- An argument of a law, opened, with its measure. -/
theorem openM_arg {α : Type} {E : Elem α} {t : TypeId} {m : α → Nat} (hO : OpensM P E t m) {H : Type} {enc : TypeId × Value → H} {w : World} {v : Value} {d : DataW H} {pl : List MemPlace} {ts : List TypeId} {ds : List (DataW H)} {j : Nat}
    (hd : DataW.Trod enc P w 0 (fun _ => true) true t v d pl) (hsz : (DataW.weightsEach P ts ds).all (· ≤ reachBytes) = true) (hts : ts[j]? = some t) (hds : ds[j]? = some d) : ∃ y, E.R w (fun j => v.cells[j]?) y ∧ m y ≤ Rows.uptoBulk d := by
  obtain ⟨n, h⟩ := hd
  obtain ⟨y, hy, hm⟩ := hO h (fun k hk => by
    have := List.all_eq_true.1 hsz k (DataW.weights_mem_each hts hds k hk)
    simpa using this)
  exact ⟨y, hy _ fun j _ => by simp, hm⟩
end
end Go.Proofs.Ytjepgpocmnijiaa.rdBulk
