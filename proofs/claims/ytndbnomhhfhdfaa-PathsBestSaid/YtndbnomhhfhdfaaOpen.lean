/- A slice of texts among a law's arguments, opened: what it reads as, that its texts have a length, and the reach. -/
import Derived.Test.YtndbnomhhfhdfaaFrame
import Derived.Test.YtndbnomhhfhdfaaBest
import Derived.Deep.Slices
import Derived.WalkLawsBesides
namespace Go.Proofs.Ytndbnomhhfhdfaa
open Go.ChangeShapes Go.WideShapes Go.ChangeAt Go.RowKit
set_option linter.unusedVariables false
section
variable {H : Type} {enc : TypeId × Value → H} {P : Program} {w : World}

theorem trod_text {t : TypeId} {n : Nat} {V : Value} {x : DataW H × List MemPlace} (ht : P.underlying t = some .string) (h : DataW.trod enc P w 0 (fun _ => true) true n t [V] = some x) : ∃ b, V = .string b ∧ b.size ≤ maxLen := by
  cases n with
  | zero => simp [DataW.trod] at h
  | succ n =>
    simp only [DataW.trod, ht] at h
    cases V <;> simp at h
    exact ⟨_, rfl, h.1⟩
theorem open_texts {t e : TypeId} {v : Value} {d : DataW H} {ps : List MemPlace} {ts : List TypeId} {ds : List (DataW H)} {j : Nat} (ht : P.underlying t = some (.slice e)) (he : P.underlying e = some .string) (hce : P.cellsOf e = 1) (hbe : P.bytesOf e = 16)
    (hval : ∃ a l c, v = .slice a l c) (hd : DataW.Trod enc P w 0 (fun _ => true) true t v d ps)
    (hsz : (DataW.weightsEach P ts ds).all (· ≤ reachBytes) = true) (hts : ts[j]? = some t) (hds : ds[j]? = some d) :
    ∃ ss, RdS w v ss ∧ (∀ s ∈ ss, s.size ≤ maxLen) ∧ ss.length * 16 ≤ 140737488351232 := by
  obtain ⟨a0, len0, cap0, rfl⟩ := hval
  obtain ⟨fuel, hf⟩ := hd
  rcases Deep.open_slice1 ht hce hf with ⟨hcs, hx⟩ | ⟨a, len, cap, m, n, V, D, Pl, hcs, _, hl, hm, hmm, hx, hel⟩
  · simp [Value.cells] at hcs
    obtain ⟨rfl, rfl, rfl⟩ := hcs
    exact ⟨[], ⟨none, 0, rfl, .inl rfl⟩, by simp, by simp⟩
  · simp [Value.cells] at hcs
    obtain ⟨rfl, rfl, rfl⟩ := hcs
    simp only [if_true] at hmm
    subst hmm
    have hb : ∀ i, i < len0 → ∃ b, V i = .string b ∧ b.size ≤ maxLen := fun i hi => trod_text he (hel i (by omega)).2
    obtain ⟨f, hfv⟩ := Deep.choose_lt hb
    have hlen : ((List.range len0).map f).length = len0 := by simp
    refine ⟨(List.range len0).map f, ⟨some a, m, by rw [hlen], ?_⟩, ?_, ?_⟩
    · rcases Nat.eq_zero_or_pos len0 with h0 | h0
      · subst h0; exact .inl rfl
      · right
        obtain ⟨b, off, spot⟩ := a
        have h00 := (hel 0 (by omega)).1
        have hspot : spot = none := by
          cases spot with
          | none => rfl
          | some s => simp [Addr.add, World.cell?] at h00; split at h00 <;> simp at h00
        subst hspot
        refine ⟨b, off, rfl, ?_, fun i hi => ?_⟩
        · exact World.block_lt_of_cell? w _ h00
        · rw [hlen] at hi
          have h1 := (hel i (by omega)).1
          have e : (⟨b, off, none⟩ : Addr).add i = ⟨b, off + i, none⟩ := by unfold Addr.add; split <;> simp_all
          rw [e, (hfv i hi).1] at h1
          rw [h1]
          simp [List.getD, hi]
    · intro x hx
      obtain ⟨i, hi, rfl⟩ := List.mem_map.1 hx
      exact (hfv i (List.mem_range.1 hi)).2
    · have hd2 : d = .slice ((List.range len0).map D) ((List.range (m - len0)).map fun j => D (len0 + j)) := by
        have := congrArg Prod.fst hx; exact this
      rw [hd2] at hds
      have h := sized_slice hsz hts hds ht
      rw [hbe] at h
      simp only [List.length_map, List.length_range, reachBytes] at h
      rw [hlen]; omega
end
theorem Try.cells9 : Try.prog.cellsOf 9 = 1 := by kernel_rfl
theorem Try.bytes9 : Try.prog.bytesOf 9 = 16 := by kernel_rfl
theorem Try.info9 : (Try.prog.info? 9).map (fun i => (i.zero, i.size, i.bytes)) = some (some (.string ByteArray.empty), 1, 16) := by kernel_rfl
theorem RdS.src {w : World} {ao : Option Addr} {n cap : Nat} {ss : List ByteArray} (h : RdS w (.slice ao n cap) ss) : ∀ j u, (ss.map Value.string)[j]? = some u → ∃ ad, ao = some ad ∧ w.cell? (ad.add j) = some u := by
  obtain ⟨ao', cap', e, h⟩ := h
  cases e
  intro j u hj
  rcases h with rfl | ⟨b, off, rfl, _, hc⟩
  · simp at hj
  · refine ⟨_, rfl, ?_⟩
    have hjl : j < ss.length := by
      rcases Nat.lt_or_ge j ss.length with h | h
      · exact h
      · rw [List.getElem?_eq_none (by simpa using h)] at hj; cases hj
    have e : (⟨b, off, none⟩ : Addr).add j = ⟨b, off + j, none⟩ := by unfold Addr.add; split <;> simp_all
    rw [e, hc j hjl]
    rw [List.getElem?_map] at hj
    simp [hjl] at hj
    rw [← hj]; simp [List.getD, hjl]
theorem RdS.own {w : World} {base e : Nat} {v : Value} {ss : List ByteArray} (h : w.ownsRow base e 1 v ss.length (ss.map Value.string)) : RdS w v ss := by
  rcases h.2 with ⟨rfl, h0⟩ | ⟨g, cap, cur, rfl, hbg, hg, r⟩
  · exact ⟨none, 0, by rw [h0], .inl (List.eq_nil_of_length_eq_zero h0)⟩
  · refine ⟨_, cap, rfl, .inr ⟨g, 0, rfl, (Array.getElem?_eq_some_iff.1 hg).1, fun i hi => ?_⟩⟩
    rw [Nat.zero_add, h.cellAt i (by omega)]
    simp [List.getD, hi]
theorem RdS.at {w : World} {ao : Option Addr} {n cap : Nat} {ss : List ByteArray} (h : RdS w (.slice ao n cap) ss) {i : Nat} (hi : i < ss.length) : ∃ b off, ao = some ⟨b, off, none⟩ ∧ b < w.heap.size ∧ ∀ j, j < ss.length → w.cell? ⟨b, off + j, none⟩ = some (.string (ss.getD j ByteArray.empty)) := by
  obtain ⟨ao', cap', e, h⟩ := h
  cases e
  exact h.resolve_left (by rintro rfl; simp at hi)
end Go.Proofs.Ytndbnomhhfhdfaa
