/- A slice of doubles among a law's arguments, opened: what it reads as, that its words fit, and the reach. -/
import Derived.Test.YtfdmfihifjlidaaFrame
import Derived.Test.YtfdmfihifjlidaaMem
import Derived.Deep.Slices
import Derived.WalkLawsBesides
namespace Go.Proofs.Ytfdmfihifjlidaa
open Go.ChangeShapes Go.WideShapes Go.ChangeAt Go.RowKit
section
variable {H : Type} {enc : TypeId × Value → H} {P : Program} {w : World}

theorem trod_float {t : TypeId} {n : Nat} {V : Value} {x : DataW H × List MemPlace} (ht : P.underlying t = some (.float .f64)) (h : DataW.trod enc P w 0 (fun _ => true) true n t [V] = some x) : ∃ b, V = .float .f64 b ∧ b < 18446744073709551616 := by
  cases n with
  | zero => simp [DataW.trod] at h
  | succ n =>
    simp only [DataW.trod, ht] at h
    cases V <;> simp at h
    obtain ⟨⟨rfl, hw⟩, _⟩ := h
    exact ⟨_, rfl, by simpa [Lit.wf] using hw⟩

theorem open_floats {t e : TypeId} {v : Value} {d : DataW H} {ps : List MemPlace} {ts : List TypeId} {ds : List (DataW H)} {j base : Nat} (ht : P.underlying t = some (.slice e)) (he : P.underlying e = some (.float .f64)) (hce : P.cellsOf e = 1) (hbe : P.bytesOf e = 8)
    (hval : Value.okWide P w .any base t v) (hd : DataW.Trod enc P w 0 (fun _ => true) true t v d ps)
    (hsz : (DataW.weightsEach P ts ds).all (· ≤ reachBytes) = true) (hts : ts[j]? = some t) (hds : ds[j]? = some d) :
    ∃ ws, Tp.RdF w v ws ∧ (∀ x ∈ ws, x < 18446744073709551616) ∧ ws.length * 8 ≤ 140737488351232 := by
  obtain ⟨a0, len0, cap0, rfl⟩ := okWide_slice ht hval
  obtain ⟨fuel, hf⟩ := hd
  rcases Deep.open_slice1 ht hce hf with ⟨hcs, hx⟩ | ⟨a, len, cap, m, n, V, D, Pl, hcs, _, hl, hm, hmm, hx, hel⟩
  · simp [Value.cells] at hcs
    obtain ⟨rfl, rfl, rfl⟩ := hcs
    exact ⟨[], ⟨none, 0, rfl, .inl rfl⟩, by simp, by simp⟩
  · simp [Value.cells] at hcs
    obtain ⟨rfl, rfl, rfl⟩ := hcs
    simp only [if_true] at hmm
    subst hmm
    have hb : ∀ i, i < len0 → ∃ b, V i = .float .f64 b ∧ b < 18446744073709551616 := fun i hi => trod_float he (hel i (by omega)).2
    obtain ⟨f, hfv⟩ := Deep.choose_lt hb
    have hlen : ((List.range len0).map f).length = len0 := by simp
    refine ⟨(List.range len0).map f, ⟨some a, m, by rw [hlen], ?_⟩, ?_, ?_⟩
    · rcases Nat.eq_zero_or_pos len0 with h0 | h0
      · subst h0; exact .inl rfl
      · right
        obtain ⟨b, off, spot⟩ := a
        have h00 := (hel 0 (by omega)).1
        have hspot : spot = none := by
          cases spot with
          | none => rfl
          | some s => simp [Addr.add, World.cell?] at h00; split at h00 <;> simp at h00
        subst hspot
        refine ⟨b, off, rfl, ?_, fun i hi => ?_⟩
        · exact World.block_lt_of_cell? w _ h00
        · rw [hlen] at hi
          have h1 := (hel i (by omega)).1
          have e : (⟨b, off, none⟩ : Addr).add i = ⟨b, off + i, none⟩ := by unfold Addr.add; split <;> simp_all
          rw [e, (hfv i hi).1] at h1
          rw [h1]
          simp [List.getD, hi]
    · intro x hx
      obtain ⟨i, hi, rfl⟩ := List.mem_map.1 hx
      exact (hfv i (List.mem_range.1 hi)).2
    · have hd2 : d = .slice ((List.range len0).map D) ((List.range (m - len0)).map fun j => D (len0 + j)) := by
        have := congrArg Prod.fst hx; exact this
      rw [hd2] at hds
      have h := sized_slice hsz hts hds ht
      rw [hbe] at h
      simp only [List.length_map, List.length_range, reachBytes] at h
      rw [hlen]; omega
end
theorem Try.cells29 : Try.prog.cellsOf 29 = 1 := by kernel_rfl
theorem Try.bytes29 : Try.prog.bytesOf 29 = 8 := by kernel_rfl
end Go.Proofs.Ytfdmfihifjlidaa
