/- A slice of bytes as a law is handed it. -/
import Derived.Test.YtabgckjokniooaaFrame
import Derived.Test.YtabgckjokniooaaRdB
import Derived.Test.YtabgckjokniooaaLby
import Derived.HandedShaped
import Derived.Shelf.Vars
namespace Go.Proofs.Ytabgckjokniooaa
open Go.ChangeShapes Go.WideShapes Go.ChangeAt Go.RowKit Go.Ln
set_option linter.unusedVariables false
set_option maxRecDepth 100000
def u8E : Rd.Elem UInt8 := ⟨1, fun _ c n => c 0 = some (.int .u8 (n.toNat : Int)), fun h _ hc => (hc 0 (by decide)).trans h⟩
theorem bounds_u8 {a : Int} (h : (Lit.int .u8 a).wf = true) : 0 ≤ a ∧ a ≤ 255 := by
  simp [Lit.wf, Go.IntKind.min, Go.IntKind.max, IntKind.signed, IntKind.bits] at h
  omega
theorem opens_u8 {t : TypeId} (ht : Try.prog.underlying t = some (.int .u8)) : Rd.Opens Try.prog u8E t := by
  intro H enc w n cs x h _
  obtain ⟨a, e0, _, wa⟩ := DataW.trod_int ht h
  subst e0
  obtain ⟨h0, h1⟩ := bounds_u8 wa
  refine ⟨UInt8.ofNat a.toNat, fun c hc => ?_⟩
  show c 0 = _
  rw [hc 0 (by decide)]
  simp only [List.getElem?_cons_zero]
  congr 2
  rw [UInt8.toNat_ofNat']
  omega
theorem co5 : Try.prog.cellsOf 5 = 1 := by kernel_rfl
theorem okWide_cap {P : Program} {w : World} {base : Nat} {t e : TypeId} {ao : Option Addr} {n c : Nat} (ht : P.underlying t = some (.slice e)) (h : Value.okWide P w .any base t (.slice ao n c)) : n ≤ c ∧ (ao = none → c = 0) := by
  simp only [Value.okWide, ht, Cell.okWide] at h
  cases ao with
  | none =>
    cases n with
    | zero => cases c <;> simp_all [Cell.ok]
    | succ n => simp_all [Cell.ok]
  | some a => simp_all [Cell.ok]
section
variable {H : Type} {enc : TypeId × Value → H} {W : World} {v : Value} {d : DataW H} {pl : List MemPlace} {ts : List TypeId} {ds : List (DataW H)} {j base : Nat}
theorem open_bytes (hval : Value.okWide Try.prog W .any base 22 v) (hd : DataW.Trod enc Try.prog W 0 (fun _ => true) true 22 v d pl) (hsz : (DataW.weightsEach Try.prog ts ds).all (· ≤ reachBytes) = true) (hts : ts[j]? = some 22) (hds : ds[j]? = some d) (h0 : 0 < W.heap.size) :
    ∃ b l, BytS W b v l ∧ b < W.heap.size ∧ l.length ≤ 140737488351232 := by
  obtain ⟨a0, l0, c0, rfl⟩ := okWide_slice Try.underlying22 hval
  obtain ⟨hc1, hc2⟩ := okWide_cap Try.underlying22 hval
  obtain ⟨hs, v', q, r, hB⟩ := Rd.open_arg (Rd.opens_sliceB Try.underlying22 co5 (show Try.prog.bytesOf 5 = 1 by kernel_rfl) (by decide) (by decide) (opens_u8 Try.underlying5)) hd hsz hts hds
  replace q : some (Value.slice a0 l0 c0) = some v' := q
  cases q
  obtain ⟨_, ao, cap, e, h⟩ := r
  cases e
  rcases h with h | ⟨b, off, rfl, hb, hx⟩
  · subst h
    exact ⟨0, [], ⟨_, _, rfl, hc1, hc2, fun i t ht => by cases ht⟩, h0, by simp⟩
  · refine ⟨b, hs, ⟨_, _, rfl, hc1, hc2, fun i c hc => ⟨off, rfl, ?_⟩⟩, hb, by omega⟩
    have h := hx i c hc
    simpa [u8E, Rd.cellsAt] using h
end
theorem hm_of {W : World} (h : W.ShapedOpen Try.prog) : ∃ m, W.cell? ⟨0, 0, none⟩ = some (.int .i64 m) :=
  cell_of_shapedOpen_int (t := 3) (zero := #[.int .i64 0]) h (of_decide_eq_true (by kernel_rfl)) (by kernel_rfl) rfl (by kernel_rfl) (by kernel_rfl) Try.underlying3
end Go.Proofs.Ytabgckjokniooaa
