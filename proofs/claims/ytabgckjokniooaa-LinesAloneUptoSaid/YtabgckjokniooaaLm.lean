/- Bytes that the call makes; hex digits; texts. -/
import Derived.Test.YtabgckjokniooaaLq
import Derived.Test.YtabgckjokniooaaBase
import Derived.Laws.BytesString
namespace Go.Ln
open Go.RowKit
/-- 'string(b)' of a slice whose cells are these bytes. -/
theorem run_string_of_cells {P : Program} (w : World) (src dst e : TypeId) (a : Addr) (l : List UInt8) (n cap : Nat) (hn : l.length = n)
    (hs : P.underlying src = some (.slice e)) (he : P.underlying e = some (.int .u8)) (hd : P.underlying dst = some .string)
    (h : ∀ j, j < l.length → w.cell? (a.add j) = some (.int .u8 ((l.getD j 0).toNat : Int))) :
    (convert src dst (.slice (some a) n cap)).run P w = .ok (.string ⟨l.toArray⟩) w := by
  subst hn
  rw [run_convert_bytes_string w src dst e (some a) _ cap hs he hd]
  have h2 := run_loadCells_list (P := P) (w := w) a (l.map fun c => Value.int .u8 (c.toNat : Int)) (fun j v hv => by
    rw [List.getElem?_map] at hv
    obtain ⟨c, hc, rfl⟩ := Option.map_eq_some_iff.1 hv
    have hj := (List.getElem?_eq_some_iff.1 hc).1
    rw [h j hj]
    simp [List.getD, hc])
  rw [List.length_map] at h2
  have h3 := run_bytesToString (P := P) w a l.length cap (l.map fun c => (c.toNat : Int)) (by rw [h2]; simp)
  rw [h3]
  congr 2
  have hf : ∀ (l : List UInt8) (acc : ByteArray), (l.map fun c => (c.toNat : Int)).foldl (fun (r : ByteArray) n => r.push (UInt8.ofNat n.toNat)) acc = ⟨acc.data ++ l.toArray⟩ := by
    intro l
    induction l with
    | nil => intro acc; obtain ⟨d⟩ := acc; simp
    | cons c r ih =>
      intro acc
      rw [List.map_cons, List.foldl_cons, ih]
      obtain ⟨d⟩ := acc
      simp [ByteArray.push]
  rw [hf]
  show (⟨#[] ++ l.toArray⟩ : ByteArray) = _
  simp
end Go.Ln
namespace Go.Proofs.Ytabgckjokniooaa
open Go.RowKit Go.Ln Go.Mp
set_option linter.unusedVariables false
set_option maxRecDepth 20000
def vb (c : UInt8) : Value := .int .u8 (c.toNat : Int)
def vbs (a : List UInt8) : List Value := a.map vb
theorem vbs_snoc (a : List UInt8) (c : UInt8) : vbs (a ++ [c]) = vbs a ++ [vb c] := by simp [vbs]
theorem vbs_length (a : List UInt8) : (vbs a).length = a.length := by simp [vbs]
/-- 'string(b)' of bytes of our own. -/
theorem row_string {w : World} {B : Nat} {v : Value} {a : List UInt8} (h : w.ownsRow B 5 1 v a.length (vbs a)) : (convert 22 9 v).run Try.prog w = .ok (.string ⟨a.toArray⟩) w := by
  obtain ⟨ao, cap, rfl⟩ := ownsRow_shape h
  cases a with
  | nil =>
    rw [run_convert_bytes_string w 22 9 5 ao _ cap Try.underlying22 Try.underlying5 Try.underlying9]
    cases ao <;> rfl
  | cons c r =>
    obtain ⟨g, rfl, _, _, _⟩ := ownsRow_cell h (j := 0) (u := vb c) rfl
    refine run_string_of_cells w 22 9 5 _ (c :: r) _ cap rfl Try.underlying22 Try.underlying5 Try.underlying9 fun j hj => ?_
    obtain ⟨g', e, _, _, c', _⟩ := ownsRow_cell h (j := j) (u := vb ((c :: r).getD j 0)) (by unfold vbs; rw [List.getElem?_map, List.getElem?_eq_getElem hj, List.getD_eq_getElem?_getD, List.getElem?_eq_getElem hj]; rfl)
    cases e
    rw [add_zero_at]
    exact c'
theorem info5 : (Try.prog.info? 5).map (fun i => (i.zero, i.size, i.bytes)) = some (some (.int .u8 0), 1, 1) := by kernel_rfl
/-! ### hex digits -/
theorem hex_lt (l : List UInt8) (c : UInt8) : Lib.indexByte l c < (l.length : Int) ∨ l = [] ∧ Lib.indexByte l c = -1 := by
  induction l with
  | nil => exact .inr ⟨rfl, rfl⟩
  | cons b r ih =>
    left
    simp only [Lib.indexByte, List.length_cons]
    split
    · omega
    · split
      · omega
      · rcases ih with h | ⟨_, h⟩ <;> omega
theorem hex_bound (c : UInt8) : -1 ≤ hexI c ∧ hexI c ≤ 15 := by
  have h1 := Lib.indexByte_ge hexes c
  have h2 := hex_lt hexes c
  have h3 : hexes.length = 16 := rfl
  rw [h3] at h2
  unfold hexI
  refine ⟨h1, ?_⟩
  rcases h2 with h | ⟨_, h⟩ <;> omega
end Go.Proofs.Ytabgckjokniooaa
