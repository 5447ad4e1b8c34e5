/- Bytes in memory; bytes.Cut at a line's end. -/
import Derived.Test.YtcnjmkjfgghgoaaZt13
import Derived.Test.YtcnjmkjfgghgoaaZt23
section

namespace Go.Proofs.Ytcnjmkjfgghgoaa
open Go.RowKit Go.Ln Go.Mp Go.Tr
set_option linter.unusedVariables false
/-- A slice of bytes in block b. -/
def BytS (w : World) (b : Nat) (v : Value) (l : List UInt8) : Prop :=
  ∃ ao cap, v = .slice ao l.length cap ∧ l.length ≤ cap ∧ (ao = none → cap = 0) ∧ ∀ i c, l[i]? = some c → ∃ off, ao = some ⟨b, off, none⟩ ∧ w.cell? ⟨b, off + i, none⟩ = some (.int .u8 (c.toNat : Int))
theorem BytS.keep {w w' : World} {b : Nat} {v : Value} {l : List UInt8} (h : BytS w b v l) (hb : w'.heap[b]? = w.heap[b]?) : BytS w' b v l := by
  obtain ⟨ao, cap, rfl, h1, h2, h3⟩ := h
  exact ⟨ao, cap, rfl, h1, h2, fun i c hc => by obtain ⟨off, e, hx⟩ := h3 i c hc; exact ⟨off, e, (World.cell?_of_block hb).trans hx⟩⟩
theorem BytS.shape {w : World} {b : Nat} {v : Value} {l : List UInt8} (h : BytS w b v l) : ∃ ao cap, v = .slice ao l.length cap := by obtain ⟨ao, cap, e, _⟩ := h; exact ⟨ao, cap, e⟩
theorem BytS.string {w : World} {b : Nat} {v : Value} {l : List UInt8} (h : BytS w b v l) : (convert 41 9 v).run Try.prog w = .ok (.string ⟨l.toArray⟩) w := by
  obtain ⟨ao, cap, rfl, h1, h2, h3⟩ := h
  cases ao with
  | none =>
    have hc := h2 rfl
    have hl : l = [] := List.length_eq_zero_iff.1 (by omega)
    subst hl
    exact run_convert_bytes_nil w 41 5 Try.underlying41 Try.underlying5 0 cap 9 Try.underlying9
  | some a =>
    refine run_string_of_cells w 41 9 5 a l _ cap rfl Try.underlying41 Try.underlying5 Try.underlying9 fun j hj => ?_
    obtain ⟨off, e, hx⟩ := h3 j l[j] (by simp [hj])
    cases e
    rw [add_at, List.getD_eq_getElem?_getD, List.getElem?_eq_getElem hj]
    exact hx
def nums (l : List UInt8) : List Int := l.map fun c => (c.toNat : Int)
theorem nums_bytes (l : List UInt8) : Lib.bytesOf (nums l) = l := by
  unfold Lib.bytesOf nums
  rw [List.map_map]
  conv => rhs; rw [← List.map_id l]
  apply List.map_congr_left
  intro c _
  simp
theorem BytS.in {w : World} {b cap : Nat} {ao : Option Addr} {l : List UInt8} (h : BytS w b (.slice ao l.length cap) l) : Lib.BytesIn w ao l.length (nums l) := by
  intro h0
  obtain ⟨ao, cap, e, h1, h2, h3⟩ := h
  cases e
  obtain ⟨off, rfl, _⟩ := h3 0 l[0] (by simp [h0])
  refine ⟨b, off, rfl, fun i hi => ?_⟩
  obtain ⟨off', e, hx⟩ := h3 i l[i] (by simp [hi])
  cases e
  rw [hx]; unfold nums; simp [hi]
theorem byte_in {w : World} {g : Nat} (h : w.cell? ⟨g, 0, none⟩ = some (.int .u8 10)) : Lib.BytesIn w (some ⟨g, 0, none⟩) 1 [10] := by
  intro _
  refine ⟨g, 0, rfl, fun i hi => ?_⟩
  obtain rfl : i = 0 := by omega
  exact h
theorem byts_take {w : World} {b cap : Nat} {ao : Option Addr} {l : List UInt8} (h : BytS w b (.slice ao l.length cap) l) {k : Nat} (hk : k ≤ l.length) : BytS w b (.slice ao k cap) (l.take k) := by
  obtain ⟨ao, cap, e, h1, h2, h3⟩ := h
  cases e
  refine ⟨ao, cap, by rw [List.length_take, Nat.min_eq_left hk], by rw [List.length_take]; omega, h2, fun i c hc => ?_⟩
  rw [List.getElem?_take] at hc
  split at hc
  · exact h3 i c hc
  · cases hc
theorem byts_drop {w : World} {b cap : Nat} {ao : Option Addr} {l : List UInt8} (h : BytS w b (.slice ao l.length cap) l) {k : Nat} (hk : k ≤ l.length) : BytS w b (Lib.fromV ao l.length cap k) (l.drop k) := by
  obtain ⟨ao, cap, e, h1, h2, h3⟩ := h
  cases e
  unfold Lib.fromV
  refine ⟨_, _, by rw [List.length_drop], by rw [List.length_drop]; omega, fun hn => ?_, fun i c hc => ?_⟩
  · split at hn
    · omega
    · cases ao with
      | none => have := h2 rfl; omega
      | some a => cases hn
  · rw [List.getElem?_drop] at hc
    obtain ⟨off, rfl, hx⟩ := h3 _ c hc
    have hl := (List.getElem?_eq_some_iff.1 hc).1
    refine ⟨off + k, ?_, by rw [← hx, Nat.add_assoc]⟩
    rw [if_neg (by omega), Option.map_some, add_at]
theorem byts_nil (w : World) (b : Nat) : BytS w b (.slice none 0 0) [] := ⟨none, 0, rfl, Nat.le_refl _, fun _ => rfl, fun i c h => by simp at h⟩
theorem cut_any {w : World} {b g : Nat} {v : Value} {r : List UInt8} {m : Int} (h : BytS w b v r) (hs : r.length < 4294967281) (hg : w.cell? ⟨g, 0, none⟩ = some (.int .u8 10)) (hm : w.cell? ⟨0, 0, none⟩ = some (.int .i64 m)) :
    ∃ v1 v2 fd, BytS w b v1 (cutL r).1 ∧ BytS w b v2 (cutL r).2 ∧ Calls Try.prog 59 #[v, .slice (some ⟨g, 0, none⟩) 1 1] w fun e w' => e = .returned (.tuple #[v1, v2, .bool fd]) ∧ ∃ q, w' = w.drewN q := by
  obtain ⟨ao, cap, rfl, h1, h2, h3⟩ := id h
  have hc := Try.bytes_Cut_all ao (some ⟨g, 0, none⟩) r.length cap 1 1 (nums r) [10] m w (by simp [nums]) rfl (fun x hx => by
    obtain ⟨c, _, rfl⟩ := List.mem_map.1 hx
    have := c.toNat_lt
    omega) (fun y hy => by simp at hy; omega) h.in (byte_in hg) h2 h1 hs (by omega) hm
  rw [nums_bytes, show Lib.bytesOf [10] = [10] from rfl] at hc
  unfold Lib.cutV at hc
  unfold cutL
  by_cases h0 : 0 ≤ Lib.index r [10]
  · have hix := ix_le r h0
    rw [if_pos h0] at hc
    simp only [if_pos h0]
    exact ⟨_, _, _, byts_take h (by omega), byts_drop h (by omega), hc⟩
  · rw [if_neg h0] at hc
    simp only [if_neg h0]
    exact ⟨_, _, _, h, byts_nil w b, hc⟩
end Go.Proofs.Ytcnjmkjfgghgoaa
end
