/- The law TreeReads at its argument as it is handed in. -/
import Derived.Test.YtcnjmkjfgghgoaaReadsWalk
import Derived.Test.YtcnjmkjfgghgoaaFrame
import Derived.Test.YtcnjmkjfgghgoaaRdB
namespace Go.Proofs.Ytcnjmkjfgghgoaa
open Go.ChangeShapes Go.WideShapes Go.ChangeAt Go.RowKit Go.Tr
set_option linter.unusedVariables false
set_option maxRecDepth 100000
abbrev TokT := Int × (Int × (Int × (ByteArray × (Bool × Unit))))
def tokE : Rd.Elem TokT := Rd.pair Rd.int (Rd.pair Rd.int (Rd.pair Rd.int (Rd.pair Rd.str (Rd.pair Rd.bool Rd.none))))
theorem co3 : Try.prog.cellsOf 3 = 1 := by kernel_rfl
theorem co9 : Try.prog.cellsOf 9 = 1 := by kernel_rfl
theorem co4 : Try.prog.cellsOf 4 = 1 := by kernel_rfl
theorem co48 : Try.prog.cellsOf 48 = 5 := by kernel_rfl
theorem oTok : Rd.Opens Try.prog tokE 48 := Rd.opens_struct Try.underlying48 (Rd.opensF_cons rfl co3 (Rd.opens_int Try.underlying3) (Rd.opensF_cons rfl co3 (Rd.opens_int Try.underlying3) (Rd.opensF_cons rfl co3 (Rd.opens_int Try.underlying3) (Rd.opensF_cons rfl co9 (Rd.opens_str Try.underlying9) (Rd.opensF_cons rfl co4 (Rd.opens_bool Try.underlying4) (Rd.opensF_nil _))))))
theorem tok_cells {w : World} {b off i : Nat} {x : TokT} (h : tokE.R w (Rd.cellsAt w b (off + i * tokE.k)) x) : w.cell? ⟨b, off + i * 5, none⟩ = some (.int .i64 x.1) ∧ w.cell? ⟨b, off + i * 5 + 1, none⟩ = some (.int .i64 x.2.1) ∧ w.cell? ⟨b, off + i * 5 + 2, none⟩ = some (.int .i64 x.2.2.1) ∧ w.cell? ⟨b, off + i * 5 + 3, none⟩ = some (.string x.2.2.2.1) ∧ w.cell? ⟨b, off + i * 5 + 4, none⟩ = some (.bool x.2.2.2.2.1) := by
  obtain ⟨⟨q0, _⟩, ⟨q1, _⟩, ⟨q2, _⟩, ⟨q3, _⟩, q4, _⟩ := h
  exact ⟨q0, q1, q2, q3, q4⟩
def tokOf (x : TokT) : Tok := ⟨x.1, x.2.1, x.2.2.1, x.2.2.2.1, x.2.2.2.2.1⟩
section
variable {H : Type} {enc : TypeId × Value → H} {W : World} {v : Value} {d : DataW H} {pl : List MemPlace} {ts : List TypeId} {ds : List (DataW H)} {j base : Nat}
theorem open_toks (hval : Value.okWide Try.prog W .any base 22 v) (hd : DataW.Trod enc Try.prog W 0 (fun _ => true) true 22 v d pl) (hsz : (DataW.weightsEach Try.prog ts ds).all (· ≤ reachBytes) = true) (hts : ts[j]? = some 22) (hds : ds[j]? = some d) :
    ∃ kb l, TokS W kb v l ∧ (kb < W.heap.size ∨ l = []) ∧ l.length < 2932031007400 ∧ ∀ (i : Nat) (t : Tok), l[i]? = some t → (-9223372036854775808 ≤ t.kind ∧ t.kind ≤ 9223372036854775807) ∧ (-9223372036854775808 ≤ t.line ∧ t.line ≤ 9223372036854775807) ∧ (-9223372036854775808 ≤ t.col ∧ t.col ≤ 9223372036854775807) ∧ t.text.size ≤ maxLen := by
  obtain ⟨a0, l0, c0, rfl⟩ := okWide_slice Try.underlying22 hval
  obtain ⟨hs, v', q, r, hB⟩ := Rd.open_arg (Rd.opens_sliceB Try.underlying22 co48 (show Try.prog.bytesOf 48 = 48 by kernel_rfl) (by decide) (by decide) oTok) hd hsz hts hds
  replace q : some (Value.slice a0 l0 c0) = some v' := q
  cases q
  obtain ⟨_, ao, cap, e, h⟩ := r
  cases e
  have hlen : hs.length < 2932031007400 := by omega
  rcases h with h | ⟨b, off, rfl, hb, hx⟩
  · subst h
    exact ⟨0, [], ⟨_, _, rfl, fun i t ht => by cases ht⟩, .inr rfl, by simp, fun i t ht => by cases ht⟩
  · have key : ∀ (i : Nat) (t : Tok), (hs.map tokOf)[i]? = some t → ∃ x, hs[i]? = some x ∧ tokOf x = t := fun i t ht => by
      rw [List.getElem?_map] at ht
      cases hq : hs[i]? with
      | none => rw [hq] at ht; cases ht
      | some x => rw [hq] at ht; exact ⟨x, rfl, by simpa using ht⟩
    refine ⟨b, hs.map tokOf, ⟨some ⟨b, off, none⟩, c0, by rw [List.length_map], fun i t ht => ?_⟩, .inl hb, Nat.lt_of_le_of_lt (Nat.le_of_eq (List.length_map tokOf)) hlen, fun i t ht => ?_⟩
    · obtain ⟨x, hq, rfl⟩ := key i t ht
      obtain ⟨h1, h2, h3, h4, h5⟩ := tok_cells (hx i x hq)
      exact ⟨off, rfl, h1, h2, h3, h4, h5⟩
    · obtain ⟨x, hq, rfl⟩ := key i t ht
      obtain ⟨h1, h2, h3, h4, h5, _⟩ := hx i x hq
      exact ⟨h1.2, h2.2, h3.2, h4.2⟩
end
end Go.Proofs.Ytcnjmkjfgghgoaa
namespace Go.Proofs.Ytcnjmkjfgghgoaa.treeReads
open Go.ChangeShapes Go.WideShapes Go.ChangeAt Go.RowKit
set_option maxRecDepth 100000
theorem walk {H : Type} (enc : TypeId × Value → H) (W : World) (base : Nat) (args : Array Value) (ds : List (DataW H)) (p : List MemPlace)
    (hval0 : ∀ (j : Nat) t v, Try.f3.params[j]? = some t → args[j]? = some v → Value.okWide Try.prog W .any base t v)
    (hA : DataW.TrodAll enc Try.prog W 0 (fun _ => true) true Try.f3.params.toList args.toList ds p)
    (hsz : (DataW.weightsEach Try.prog Try.f3.params.toList ds).all (· ≤ reachBytes) = true) :
    Calls Try.prog 3 args W fun e w' => e = .returned (.bool true) ∧ Below W.heap.size W w' := by
  have hval : ∀ (j : Nat) t v, Try.f3.params[j]? = some t → args[j]? = some v → Value.okWide Try.prog W .any base t v := hval0
  rw [Try.params3] at hA hval hsz
  obtain ⟨v0, d0, rfl, rfl, h0⟩ := trodAll_one hA
  obtain ⟨kb, l, h1, h2, h3, _⟩ := open_toks (hval 0 22 v0 rfl rfl) h0 hsz (j := 0) rfl rfl
  exact tree_reads h1 h2 h3
end Go.Proofs.Ytcnjmkjfgghgoaa.treeReads
