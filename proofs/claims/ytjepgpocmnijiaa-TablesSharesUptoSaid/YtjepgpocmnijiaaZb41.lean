/- A list of resources among the arguments, opened. -/
import Derived.Test.YtjepgpocmnijiaaZb3
import Derived.Test.YtjepgpocmnijiaaZb6
section

namespace Go.Proofs.Ytjepgpocmnijiaa.rdBulk
open Go.ChangeShapes Go.WideShapes Go.ChangeAt Go.RowKit Go.Rd Go.Ck
set_option linter.unusedVariables false
set_option maxRecDepth 100000
theorem opensM_map {P : Program} {α β : Type} {E : Elem α} {t : TypeId} {m : α → Nat} {m' : β → Nat} {g : β → α} (f : α → β) (hg : ∀ x, g (f x) = x) (hm : ∀ x, m' (f x) = m x) (h : OpensM P E t m) : OpensM P (E.map g) t m' := by
  intro H enc w n cs x h1 h2
  obtain ⟨y, hy, hb⟩ := h h1 h2
  exact ⟨f y, fun c hc => by show E.R w c (g (f y)); rw [hg]; exact hy c hc, by rw [hm]; exact hb⟩
theorem co3 : Try.prog.cellsOf 3 = 1 := by kernel_rfl
theorem co4 : Try.prog.cellsOf 4 = 1 := by kernel_rfl
theorem co9 : Try.prog.cellsOf 9 = 1 := by kernel_rfl
theorem co48 : Try.prog.cellsOf 48 = 1 := by kernel_rfl
theorem co49 : Try.prog.cellsOf 49 = 1 := by kernel_rfl
theorem co50 : Try.prog.cellsOf 50 = 1 := by kernel_rfl
theorem co52 : Try.prog.cellsOf 52 = 8 := by kernel_rfl
theorem co55 : Try.prog.cellsOf 55 = 1 := by kernel_rfl
theorem co57 : Try.prog.cellsOf 57 = 3 := by kernel_rfl
theorem co101 : Try.prog.cellsOf 101 = 4 := by kernel_rfl
theorem oTgt : OpensM Try.prog tgtE 57 tgtM := opensM_map (fun x => ⟨x.1, x.2.1, x.2.2.1⟩) (fun _ => rfl) (fun _ => rfl)
  (opensM_struct Try.underlying57 (opensFM_cons rfl co9 (opensM_str Try.underlying9) (opensFM_cons rfl co9 (opensM_str Try.underlying9) (opensFM_cons rfl co55 (opensM_of (Rd.opens_float Try.underlying55)) (opensFM_nil _)))))
theorem oRul : OpensM Try.prog rulE 101 rulM := opensM_map (fun x => ⟨x.1, x.2.1, x.2.2.1, x.2.2.2.1⟩) (fun _ => rfl) (fun _ => rfl)
  (opensM_struct Try.underlying101 (opensFM_cons rfl co9 (opensM_str Try.underlying9) (opensFM_cons rfl co9 (opensM_str Try.underlying9) (opensFM_cons rfl co9 (opensM_str Try.underlying9) (opensFM_cons rfl co4 (opensM_of (Rd.opens_bool Try.underlying4)) (opensFM_nil _))))))
theorem oRes : OpensM Try.prog resE 52 resM := opensM_map (fun x => ⟨x.1, x.2.1, x.2.2.1, x.2.2.2.1, x.2.2.2.2.1, x.2.2.2.2.2.1, x.2.2.2.2.2.2.1, x.2.2.2.2.2.2.2.1⟩) (fun _ => rfl) (fun _ => rfl)
  (opensM_struct Try.underlying52 (opensFM_cons rfl co3 (opensM_of (Rd.opens_int Try.underlying3)) (opensFM_cons rfl co9 (opensM_str Try.underlying9)
    (opensFM_cons rfl co48 (opensM_slice Try.underlying48 co9 (show Try.prog.bytesOf 9 = 16 by kernel_rfl) (by decide) (by decide) (opensM_str Try.underlying9))
    (opensFM_cons rfl co49 (opensM_slice Try.underlying49 co57 (show Try.prog.bytesOf 57 = 40 by kernel_rfl) (by decide) (by decide) oTgt)
    (opensFM_cons rfl co9 (opensM_str Try.underlying9)
    (opensFM_cons rfl co50 (opensM_slice Try.underlying50 co101 (show Try.prog.bytesOf 101 = 56 by kernel_rfl) (by decide) (by decide) oRul)
    (opensFM_cons rfl co9 (opensM_str Try.underlying9) (opensFM_cons rfl co4 (opensM_of (Rd.opens_bool Try.underlying4)) (opensFM_nil _))))))))))
theorem open_res {H : Type} {enc : TypeId × Value → H} {W : World} {v : Value} {d : DataW H} {pl : List MemPlace} {ts : List TypeId} {ds : List (DataW H)} {j base : Nat} (hval : Value.okWide Try.prog W .any base 22 v) (hd : DataW.Trod enc Try.prog W 0 (fun _ => true) true 22 v d pl) (hsz : (DataW.weightsEach Try.prog ts ds).all (· ≤ reachBytes) = true) (hts : ts[j]? = some 22) (hds : ds[j]? = some d) :
    ∃ l : List Res, ResS W v l ∧ listM l ≤ Rows.uptoBulk d := by
  obtain ⟨a0, l0, c0, rfl⟩ := okWide_slice Try.underlying22 hval
  obtain ⟨l, ⟨v', q, r⟩, hm⟩ := openM_arg (opensM_slice Try.underlying22 co52 (show Try.prog.bytesOf 52 = 136 by kernel_rfl) (by decide) (by decide) oRes) hd hsz hts hds
  replace q : some (Value.slice a0 l0 c0) = some v' := q
  cases q
  exact ⟨l, r, hm⟩
end Go.Proofs.Ytjepgpocmnijiaa.rdBulk
end
