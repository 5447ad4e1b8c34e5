/- Probes among a law's arguments, opened. -/
import Derived.Test.YteedjgkinmkmoaaFrame
import Derived.Test.YteedjgkinmkmoaaMem
import Derived.Deep.Slices
import Derived.ChangeSame
import Derived.WalkLawsBesides
namespace Go.Proofs.Yteedjgkinmkmoaa
open Go.ChangeShapes Go.WideShapes Go.ChangeAt Go.RowKit
set_option linter.unusedVariables false

/-- The probes that lie at an address. -/
structure Pr (w : World) (b off : Nat) (ps : List (Bool × Nat)) : Prop where
  ok : ∀ i, i < ps.length → w.cell? ⟨b, off + i * 2, none⟩ = some (.bool (ps.getD i (false, 0)).1)
  took : ∀ i, i < ps.length → w.cell? ⟨b, off + i * 2 + 1, none⟩ = some (.float .f64 (ps.getD i (false, 0)).2)
theorem Pr.below {w w' : World} {b off : Nat} {ps : List (Bool × Nat)} (h : Pr w b off ps) {B : Nat} (hb : b < B) (hl : Below B w w') : Pr w' b off ps :=
  ⟨fun i hi => (hl.cell (by exact hb)).trans (h.ok i hi), fun i hi => (hl.cell (by exact hb)).trans (h.took i hi)⟩
/-- The value is a slice of probes that reads as the list. -/
def RdP (w : World) (v : Value) (ps : List (Bool × Nat)) : Prop := ∃ ao cap, v = .slice ao ps.length cap ∧ (ps = [] ∨ ∃ b off, ao = some ⟨b, off, none⟩ ∧ b < w.heap.size ∧ Pr w b off ps)

section
variable {H : Type} {enc : TypeId × Value → H} {w : World}
theorem Try.cells32 : Try.prog.cellsOf 32 = 2 := by kernel_rfl
theorem Try.cells4 : Try.prog.cellsOf 4 = 1 := by kernel_rfl
theorem Try.cells30 : Try.prog.cellsOf 30 = 1 := by kernel_rfl
theorem Try.bytes32 : Try.prog.bytesOf 32 = 16 := by kernel_rfl

theorem trod_probe {n : Nat} {cs : List Value} {x : DataW H × List MemPlace} (h : DataW.trod enc Try.prog w 0 (fun _ => true) true n 32 cs = some x) : ∃ b t, cs = [.bool b, .float .f64 t] ∧ t < 18446744073709551616 := by
  obtain ⟨y0, y1, m, _, hl, h0, h1⟩ := trod_struct2 Try.underlying32 h
  rw [Try.cells32] at hl
  match cs, hl with
  | [c0, c1], _ =>
    rw [show Try.prog.cellsOf _ = 1 from Try.cells4] at h0
    rw [show Try.prog.cellsOf _ = 1 from Try.cells30] at h1
    simp at h0 h1
    cases m with
    | zero => simp [DataW.trod] at h0
    | succ m =>
      simp only [DataW.trod, Try.underlying4, Try.underlying30] at h0 h1
      cases c0 <;> simp at h0
      cases c1 <;> simp at h1
      obtain ⟨⟨rfl, hw⟩, _⟩ := h1
      exact ⟨_, _, rfl, by simpa [Lit.wf] using hw⟩

theorem open_probes_of {v : Value} {d : DataW H} {pl : List MemPlace} {ts : List TypeId} {ds : List (DataW H)} {j : Nat}
    (hval : ∃ ao l c, v = .slice ao l c) (hd : DataW.Trod enc Try.prog w 0 (fun _ => true) true 22 v d pl)
    (hsz : (DataW.weightsEach Try.prog ts ds).all (· ≤ reachBytes) = true) (hts : ts[j]? = some 22) (hds : ds[j]? = some d) :
    ∃ ps, RdP w v ps ∧ (∀ p ∈ ps, p.2 < 18446744073709551616) ∧ ps.length * 16 ≤ 140737488351232 := by
  obtain ⟨a0, len0, cap0, rfl⟩ := hval
  obtain ⟨fuel, hf⟩ := hd
  rcases Deep.open_slice Try.underlying22 hf with ⟨hcs, hx⟩ | ⟨a, len, cap, m, n, D, Pl, hcs, _, hl, hm, hmm, hx, hel⟩
  · simp [Value.cells] at hcs
    obtain ⟨rfl, rfl, rfl⟩ := hcs
    exact ⟨[], ⟨none, 0, rfl, .inl rfl⟩, by simp, by simp⟩
  · simp [Value.cells] at hcs
    obtain ⟨rfl, rfl, rfl⟩ := hcs
    simp only [if_true] at hmm
    subst hmm
    rw [Try.cells32] at hel
    have hb : ∀ i, i < len0 → ∃ p : Bool × Nat, w.cell? (a.add (i * 2)) = some (.bool p.1) ∧ w.cell? (a.add (i * 2 + 1)) = some (.float .f64 p.2) ∧ p.2 < 18446744073709551616 := fun i hi => by
      obtain ⟨cs', h1, h2⟩ := hel i (by omega)
      obtain ⟨b, t, rfl, ht⟩ := trod_probe h2
      obtain ⟨_, _, h3⟩ := World.cells?_some h1
      have c0 := h3 0 (by omega)
      have c1 := h3 1 (by omega)
      rw [Deep.add_add] at c0 c1
      exact ⟨(b, t), by simpa using c0, by simpa using c1, ht⟩
    obtain ⟨f, hfv⟩ := Deep.choose_lt hb
    have hlen : ((List.range len0).map f).length = len0 := by simp
    have hget : ∀ i, i < len0 → ((List.range len0).map f).getD i (false, 0) = f i := fun i hi => by simp [List.getD, hi]
    refine ⟨(List.range len0).map f, ⟨some a, m, by rw [hlen], ?_⟩, ?_, ?_⟩
    · rcases Nat.eq_zero_or_pos len0 with h0 | h0
      · subst h0; exact .inl rfl
      · right
        obtain ⟨b, off, spot⟩ := a
        have h00 := (hfv 0 h0).1
        have hspot : spot = none := by
          cases spot with
          | none => rfl
          | some s => simp [Addr.add, World.cell?] at h00; split at h00 <;> simp at h00
        subst hspot
        have e : ∀ k, (⟨b, off, none⟩ : Addr).add k = ⟨b, off + k, none⟩ := fun k => by unfold Addr.add; split <;> simp_all
        refine ⟨b, off, rfl, World.block_lt_of_cell? w _ h00, ⟨fun i hi => ?_, fun i hi => ?_⟩⟩
        · rw [hlen] at hi
          have h1 := (hfv i hi).1
          rw [e] at h1
          rw [hget i hi]; exact h1
        · rw [hlen] at hi
          have h1 := (hfv i hi).2.1
          rw [e, ← Nat.add_assoc] at h1
          rw [hget i hi]; exact h1
    · intro x hx
      obtain ⟨i, hi, rfl⟩ := List.mem_map.1 hx
      exact (hfv i (List.mem_range.1 hi)).2.2
    · have hd2 : d = .slice ((List.range len0).map D) ((List.range (m - len0)).map fun j => D (len0 + j)) := by
        have := congrArg Prod.fst hx; exact this
      rw [hd2] at hds
      have h := sized_slice hsz hts hds Try.underlying22
      rw [Try.bytes32] at h
      simp only [List.length_map, List.length_range, reachBytes] at h
      rw [hlen]; omega
theorem open_probes {v : Value} {d : DataW H} {pl : List MemPlace} {ts : List TypeId} {ds : List (DataW H)} {j base : Nat}
    (hval : Value.okWide Try.prog w .any base 22 v) (hd : DataW.Trod enc Try.prog w 0 (fun _ => true) true 22 v d pl)
    (hsz : (DataW.weightsEach Try.prog ts ds).all (· ≤ reachBytes) = true) (hts : ts[j]? = some 22) (hds : ds[j]? = some d) :
    ∃ ps, RdP w v ps ∧ (∀ p ∈ ps, p.2 < 18446744073709551616) ∧ ps.length * 16 ≤ 140737488351232 :=
  open_probes_of (okWide_slice Try.underlying22 hval) hd hsz hts hds
end
end Go.Proofs.Yteedjgkinmkmoaa
