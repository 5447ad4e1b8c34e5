/- Slices read with what their elements take: of no program. -/
import Derived.Test.YtabgckjokniooaaRd
namespace Go.Rd
open Go.ChangeShapes Go.WideShapes Go.ChangeAt Go.RowKit
set_option linter.unusedVariables false
def sliceB {α : Type} (E : Elem α) (nb : Nat) : Elem (List α) := ⟨1, fun w c xs => ∃ v, c 0 = some v ∧ SliceOf E w v xs ∧ xs.length * nb ≤ 140737488351232, fun ⟨v, h1, h2, h3⟩ hb hc => ⟨v, (hc 0 (by decide)).trans h1, h2.below hb, h3⟩⟩
section
variable {P : Program}
theorem opens_sliceB {α : Type} {E : Elem α} {t e : TypeId} (ht : P.underlying t = some (.slice e)) (hk : P.cellsOf e = E.k) {nb : Nat} (hb0 : P.bytesOf e = nb) (hb1 : 1 ≤ nb) (hE0 : 0 < E.k) (hE : Opens P E e) : Opens P (sliceB E nb) t := by
  intro H enc w n cs x h hf
  have hb : 1 ≤ P.bytesOf e := by rw [hb0]; exact hb1
  rcases Deep.open_slice ht h with ⟨hcs, hx⟩ | ⟨a, len, cap, m, n', D, Pl, hcs, _, hl, hm, hmm, hx, hel⟩
  · subst hcs
    exact ⟨[], fun c hc => ⟨_, by rw [hc 0 Nat.one_pos]; rfl, ⟨Nat.zero_le _, _, _, rfl, .inl rfl⟩, by simp⟩⟩
  · subst hcs
    simp only [if_true] at hmm
    subst hmm
    rw [hk] at hel
    rw [hx] at hf
    have hfe : ∀ i, i < len → Fits P e (D i) := fun i hi k hk' => by
      refine hf k ?_
      simp only [DataW.weights, ht]
      refine List.mem_cons_of_mem _ (List.mem_append_left _ ?_)
      have : ∀ (l : List (DataW H)) (d : DataW H), d ∈ l → k ∈ d.weights P e → k ∈ DataW.weightsAll P e l := by
        intro l d hd hk2
        induction l with
        | nil => cases hd
        | cons q r ih =>
          simp only [DataW.weightsAll, List.mem_append]
          rcases List.mem_cons.1 hd with rfl | hd
          · exact .inl hk2
          · exact .inr (ih hd)
      exact this _ (D i) (List.mem_map.2 ⟨i, List.mem_range.2 hi, rfl⟩) hk'
    have hlenB : len * nb ≤ 140737488351232 := by
      have := hf ((((List.range len).map D).length + ((List.range (m - len)).map fun j => D (len + j)).length) * P.bytesOf e) (by simp [DataW.weights, ht])
      simp only [List.length_map, List.length_range, reachBytes] at this
      have h2 : len * nb ≤ (len + (m - len)) * P.bytesOf e := Nat.mul_le_mul (by omega) (by rw [hb0]; exact Nat.le_refl _)
      omega
    have hlen : len ≤ 140737488351232 := by
      have := hf ((((List.range len).map D).length + ((List.range (m - len)).map fun j => D (len + j)).length) * P.bytesOf e) (by simp [DataW.weights, ht])
      simp only [List.length_map, List.length_range, reachBytes] at this
      have h2 : len * 1 ≤ (len + (m - len)) * P.bytesOf e := Nat.mul_le_mul (by omega) hb
      omega
    have hy : ∀ i, i < len → ∃ y, ∀ b off, a = ⟨b, off, .none⟩ → E.R w (cellsAt w b (off + i * E.k)) y := fun i hi => by
      obtain ⟨cs', h1, h2⟩ := hel i (by omega)
      obtain ⟨y, hy⟩ := hE h2 (hfe i hi)
      refine ⟨y, fun b off ha => hy _ fun j hj => ?_⟩
      obtain ⟨_, hcl, h3⟩ := World.cells?_some h1
      have := h3 j hj
      subst ha
      have e1 : (⟨b, off, .none⟩ : Addr).add (i * E.k) = ⟨b, off + i * E.k, .none⟩ := by unfold Addr.add; split <;> simp_all
      have e2 : (⟨b, off + i * E.k, .none⟩ : Addr).add j = ⟨b, off + i * E.k + j, .none⟩ := by unfold Addr.add; split <;> simp_all
      rw [e1, e2] at this
      exact this
    obtain ⟨l, hll, hlq⟩ := list_of len hy
    rcases Nat.eq_zero_or_pos len with h0 | h0
    · subst h0
      exact ⟨[], fun c hc => ⟨_, by rw [hc 0 Nat.one_pos]; rfl, ⟨Nat.zero_le _, _, _, rfl, .inl rfl⟩, by simp⟩⟩
    · obtain ⟨b, off, spot⟩ := a
      have h00 : ∃ v, w.cell? ((⟨b, off, spot⟩ : Addr).add 0) = some v := by
        obtain ⟨cs', h1, _⟩ := hel 0 (by omega)
        obtain ⟨_, hcl, h3⟩ := World.cells?_some h1
        have := h3 0 (by omega)
        rw [Nat.zero_mul] at this
        have hc0 : (0 : Nat) < cs'.length := by omega
        refine ⟨cs'[0], ?_⟩
        rw [← List.getElem?_eq_getElem hc0, ← this]
        cases spot <;> simp [Addr.add]
      obtain ⟨v0, h00⟩ := h00
      have hspot : spot = .none := by
        cases spot with
        | none => rfl
        | some s => simp [Addr.add, World.cell?] at h00; split at h00 <;> simp at h00
      subst hspot
      exact ⟨l, fun c hc => ⟨_, by rw [hc 0 Nat.one_pos]; rfl, ⟨by rw [hll]; exact hlen, some ⟨b, off, .none⟩, m, by rw [hll], .inr ⟨b, off, rfl, World.block_lt_of_cell? w _ h00, fun i x hi => hlq i x hi b off rfl⟩⟩, by rw [hll]; exact hlenB⟩⟩

end
end Go.Rd
