/- A list of numbers among the arguments, opened. -/
import Derived.Test.YtjepgpocmnijiaaOpenL
namespace Go.Proofs.Ytjepgpocmnijiaa.rdBulk
open Go.ChangeShapes Go.WideShapes Go.ChangeAt Go.RowKit Go.Rd Go.Ck
set_option linter.unusedVariables false
set_option maxRecDepth 100000
theorem open_ints {H : Type} {enc : TypeId × Value → H} {W : World} {v : Value} {d : DataW H} {pl : List MemPlace} {ts : List TypeId} {ds : List (DataW H)} {j base : Nat} (hval : Value.okWide Try.prog W .any base 54 v) (hd : DataW.Trod enc Try.prog W 0 (fun _ => true) true 54 v d pl) (hsz : (DataW.weightsEach Try.prog ts ds).all (· ≤ reachBytes) = true) (hts : ts[j]? = some 54) (hds : ds[j]? = some d) :
    ∃ l : List Int, Rd.SliceOf Rd.int W v l := by
  obtain ⟨a0, l0, c0, rfl⟩ := okWide_slice Try.underlying54 hval
  obtain ⟨l, ⟨v', q, r⟩⟩ := Rd.open_arg (Rd.opens_slice Try.underlying54 co3 (show Try.prog.bytesOf 3 = 8 by kernel_rfl) (by decide) (by decide) (Rd.opens_int Try.underlying3)) hd hsz hts hds
  replace q : some (Value.slice a0 l0 c0) = some v' := q
  cases q
  exact ⟨l, r⟩
end Go.Proofs.Ytjepgpocmnijiaa.rdBulk
