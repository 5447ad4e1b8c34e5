/- A list of resources among the arguments, opened with how long its lists are at most. -/
import Derived.Test.YtjepgpocmnijiaaZb15
import Derived.Test.YtjepgpocmnijiaaZb41
section

namespace Go.Rd
open Go.ChangeShapes Go.WideShapes Go.ChangeAt Go.RowKit
set_option linter.unusedVariables false
/-- A slice that lies in memory: elements of so many bytes. -/
def sliceB {α : Type} (nb : Nat) (E : Elem α) : Elem (List α) := ⟨1, fun w c xs => (slice E).R w c xs ∧ xs.length * nb ≤ reachBytes, fun h hb hc => ⟨(slice E).up h.1 hb hc, h.2⟩⟩
theorem opens_sliceB {P : Program} {α : Type} {E : Elem α} {t e : TypeId} (ht : P.underlying t = some (.slice e)) (hk : P.cellsOf e = E.k) {nb : Nat} (hb0 : P.bytesOf e = nb) (hb1 : 1 ≤ nb) (hE0 : 0 < E.k) (hE : Opens P E e) : Opens P (sliceB nb E) t := by
  intro H enc w n cs x h hf
  obtain ⟨y, hy⟩ := opens_slice ht hk hb0 hb1 hE0 hE h hf
  obtain ⟨v, e1, hl, ao, cap, e2, _⟩ := hy (fun j => cs[j]?) (fun _ _ => rfl)
  refine ⟨y, fun c hc => ⟨hy c hc, ?_⟩⟩
  rcases Deep.open_slice ht h with ⟨hcs, hx⟩ | ⟨a, len, cap', m, n', D, Pl, hcs, _, hl', hm, hmm, hx, hel⟩
  · subst hcs
    have e3 : some (Value.slice Option.none 0 0) = some v := e1
    cases e3
    simp only [Value.slice.injEq] at e2
    rw [← e2.2.1]; omega
  · subst hcs
    have e3 : some (Value.slice (some a) len cap') = some v := e1
    cases e3
    simp only [Value.slice.injEq] at e2
    rw [← e2.2.1]
    rw [hx] at hf
    simp only [if_true] at hmm
    have h1 := hf ((((List.range len).map D).length + ((List.range (m - len)).map fun j => D (len + j)).length) * P.bytesOf e) (by simp [DataW.weights, ht])
    simp only [List.length_map, List.length_range] at h1
    rw [hb0] at h1
    exact Nat.le_trans (Nat.mul_le_mul_right nb (by omega)) h1
theorem SliceOf.turn {α β : Type} {E : Elem α} {F : Elem β} {w : World} {v : Value} {xs : List α} (f : α → β) (hk : F.k = E.k) (h : SliceOf E w v xs) (hR : ∀ c x, E.R w c x → F.R w c (f x)) : SliceOf F w v (xs.map f) := by
  obtain ⟨hl, ao, cap, e, hc, h⟩ := h
  refine ⟨by rw [List.length_map]; exact hl, ao, cap, by rw [List.length_map]; exact e, by rw [List.length_map]; exact hc, ?_⟩
  rcases h with h | ⟨b, off, e2, hb, hx⟩
  · exact .inl (by rw [h]; rfl)
  · refine .inr ⟨b, off, e2, hb, fun i x hi => ?_⟩
    rw [List.getElem?_map] at hi
    obtain ⟨y, hy, rfl⟩ := Option.map_eq_some_iff.1 hi
    rw [hk]
    exact hR _ _ (hx i y hy)
end Go.Rd
namespace Go.Proofs.Ytjepgpocmnijiaa.rdBulk
open Go.ChangeShapes Go.WideShapes Go.ChangeAt Go.RowKit Go.Rd Go.Ck
set_option linter.unusedVariables false
set_option maxRecDepth 100000
theorem opens_map {P : Program} {α β : Type} {E : Elem α} {t : TypeId} {g : β → α} (f : α → β) (hg : ∀ x, g (f x) = x) (h : Opens P E t) : Opens P (E.map g) t := by
  intro H enc w n cs x h1 h2
  obtain ⟨y, hy⟩ := h h1 h2
  exact ⟨f y, fun c hc => by show E.R w c (g (f y)); rw [hg]; exact hy c hc⟩
theorem zTgt : Opens Try.prog tgtE 57 := opens_map (fun x => ⟨x.1, x.2.1, x.2.2.1⟩) (fun _ => rfl)
  (opens_struct Try.underlying57 (opensF_cons rfl co9 (opens_str Try.underlying9) (opensF_cons rfl co9 (opens_str Try.underlying9) (opensF_cons rfl co55 (Rd.opens_float Try.underlying55) (opensF_nil _)))))
theorem zRul : Opens Try.prog rulE 101 := opens_map (fun x => ⟨x.1, x.2.1, x.2.2.1, x.2.2.2.1⟩) (fun _ => rfl)
  (opens_struct Try.underlying101 (opensF_cons rfl co9 (opens_str Try.underlying9) (opensF_cons rfl co9 (opens_str Try.underlying9) (opensF_cons rfl co9 (opens_str Try.underlying9) (opensF_cons rfl co4 (Rd.opens_bool Try.underlying4) (opensF_nil _))))))
/-- A resource whose lists lie in memory. -/
def resB : Rd.Elem Res := (Rd.pair Rd.int (Rd.pair Rd.str (Rd.pair (Rd.sliceB 16 Rd.str) (Rd.pair (Rd.sliceB 40 tgtE) (Rd.pair Rd.str (Rd.pair (Rd.sliceB 56 rulE) (Rd.pair Rd.str (Rd.pair Rd.bool Rd.none)))))))).map
  fun r => (r.kind, r.name, r.eps, r.tgts, r.host, r.rules, r.route, r.del, ())
theorem zRes : Opens Try.prog resB 52 := opens_map (fun x => ⟨x.1, x.2.1, x.2.2.1, x.2.2.2.1, x.2.2.2.2.1, x.2.2.2.2.2.1, x.2.2.2.2.2.2.1, x.2.2.2.2.2.2.2.1⟩) (fun _ => rfl)
  (opens_struct Try.underlying52 (opensF_cons rfl co3 (Rd.opens_int Try.underlying3) (opensF_cons rfl co9 (opens_str Try.underlying9)
    (opensF_cons rfl co48 (opens_sliceB Try.underlying48 co9 (show Try.prog.bytesOf 9 = 16 by kernel_rfl) (by decide) (by decide) (opens_str Try.underlying9))
    (opensF_cons rfl co49 (opens_sliceB Try.underlying49 co57 (show Try.prog.bytesOf 57 = 40 by kernel_rfl) (by decide) (by decide) zTgt)
    (opensF_cons rfl co9 (opens_str Try.underlying9)
    (opensF_cons rfl co50 (opens_sliceB Try.underlying50 co101 (show Try.prog.bytesOf 101 = 56 by kernel_rfl) (by decide) (by decide) zRul)
    (opensF_cons rfl co9 (opens_str Try.underlying9) (opensF_cons rfl co4 (Rd.opens_bool Try.underlying4) (opensF_nil _))))))))))
theorem resB_res {w : World} {c : Cells} {r : Res} (h : resB.R w c r) : resE.R w c r ∧ SzR r := by
  obtain ⟨h1, h2, ⟨h3, m3⟩, ⟨h4, m4⟩, h5, ⟨h6, m6⟩, h7, h8, h9⟩ := h
  have e : reachBytes ≤ 140737488355328 := by decide
  exact ⟨⟨h1, h2, h3, h4, h5, h6, h7, h8, h9⟩, ⟨Nat.le_trans m3 e, Nat.le_trans m4 e, Nat.le_trans m6 e⟩⟩
theorem open_resz {H : Type} {enc : TypeId × Value → H} {W : World} {v : Value} {d : DataW H} {pl : List MemPlace} {ts : List TypeId} {ds : List (DataW H)} {j base : Nat} (hval : Value.okWide Try.prog W .any base 22 v) (hd : DataW.Trod enc Try.prog W 0 (fun _ => true) true 22 v d pl) (hsz : (DataW.weightsEach Try.prog ts ds).all (· ≤ reachBytes) = true) (hts : ts[j]? = some 22) (hds : ds[j]? = some d) :
    ∃ l : List Res, ResS W v l ∧ SzL l := by
  obtain ⟨a0, l0, c0, rfl⟩ := okWide_slice Try.underlying22 hval
  obtain ⟨l, ⟨v', q, r⟩, hn⟩ := open_arg (opens_sliceB Try.underlying22 co52 (show Try.prog.bytesOf 52 = 136 by kernel_rfl) (by decide) (by decide) zRes) hd hsz hts hds
  replace q : some (Value.slice a0 l0 c0) = some v' := q
  cases q
  refine ⟨l, by have := SliceOf.turn (E := resB) (F := resE) id rfl r (fun c x h => (resB_res h).1); rwa [List.map_id] at this, Nat.le_trans hn (by decide), fun x hx => ?_⟩
  obtain ⟨i, hi⟩ := List.mem_iff_getElem?.1 hx
  have hne : l ≠ [] := fun e => by rw [e] at hx; cases hx
  obtain ⟨b, off, cap, _, _, hel⟩ := r.at hne
  exact (resB_res (hel i x hi)).2
end Go.Proofs.Ytjepgpocmnijiaa.rdBulk
end
