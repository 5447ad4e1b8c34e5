/- A run among a law's arguments, opened: thresholds, probes, the copy's place, whether the state is nil. -/
import Derived.Test.YteedjgkinmkmoaaOpen
namespace Go.Proofs.Yteedjgkinmkmoaa
open Go.ChangeShapes Go.WideShapes Go.ChangeAt Go.RowKit
set_option linter.unusedVariables false
section
variable {H : Type} {enc : TypeId × Value → H} {w : World}
theorem Try.cells37 : Try.prog.cellsOf 37 = 5 := by kernel_rfl
theorem Try.cells3 : Try.prog.cellsOf 3 = 1 := by kernel_rfl
theorem Try.cells22 : Try.prog.cellsOf 22 = 1 := by kernel_rfl
theorem slice_shape {n : Nat} {c : Value} {x : DataW H × List MemPlace} (h : DataW.trod enc Try.prog w 0 (fun _ => true) true n 22 [c] = some x) : ∃ ao l cap, c = .slice ao l cap := by
  rcases Deep.open_slice Try.underlying22 h with ⟨hcs, hx⟩ | ⟨a, len, cap, m, n, D, Pl, hcs, _⟩
  · simp at hcs; exact ⟨_, _, _, hcs⟩
  · simp at hcs; exact ⟨_, _, _, hcs⟩
theorem open_run {v : Value} {d : DataW H} {pl : List MemPlace} {ts : List TypeId} {ds : List (DataW H)} {j base : Nat}
    (hval : Value.okWide Try.prog w .any base 37 v) (hd : DataW.Trod enc Try.prog w 0 (fun _ => true) true 37 v d pl)
    (hsz : (DataW.weightsEach Try.prog ts ds).all (· ≤ reachBytes) = true) (hts : ts[j]? = some 37) (hds : ds[j]? = some d) :
    ∃ (r f c : Int) (n : Bool) (vp : Value) (ps : List (Bool × Nat)), v = .agg #[.int .i64 r, .int .i64 f, vp, .int .i64 c, .bool n] ∧ RdP w vp ps ∧ (∀ p ∈ ps, p.2 < 18446744073709551616) ∧ ps.length * 16 ≤ 140737488351232 ∧
      (-9223372036854775808 ≤ r ∧ r ≤ 9223372036854775807) ∧ (-9223372036854775808 ≤ f ∧ f ≤ 9223372036854775807) ∧ (-9223372036854775808 ≤ c ∧ c ≤ 9223372036854775807) := by
  obtain ⟨cs, rfl, hcsz⟩ := okWide_struct Try.underlying37 hval
  obtain ⟨l⟩ := cs
  match l, hcsz.trans Try.cells37 with
  | [c0, c1, c2, c3, c4], _ =>
    obtain ⟨fuel, hf⟩ := hd
    obtain ⟨xs, n, _, hx, _, hlen, hg⟩ := DataW.trod_struct Try.underlying37 hf
    match xs, hlen with
    | [y0, y1, y2, y3, y4], _ =>
      simp only [Prod.mk.injEq] at hx
      have g0 : DataW.trod enc Try.prog w 0 (fun _ => true) true n 3 (([c0, c1, c2, c3, c4].drop 0).take (Try.prog.cellsOf 3)) = some y0 := hg 0 _ rfl
      rw [Try.cells3] at g0
      replace g0 : DataW.trod enc Try.prog w 0 (fun _ => true) true n 3 [c0] = some y0 := g0
      have g1 : DataW.trod enc Try.prog w 0 (fun _ => true) true n 3 (([c0, c1, c2, c3, c4].drop 1).take (Try.prog.cellsOf 3)) = some y1 := hg 1 _ rfl
      rw [Try.cells3] at g1
      replace g1 : DataW.trod enc Try.prog w 0 (fun _ => true) true n 3 [c1] = some y1 := g1
      have g2 : DataW.trod enc Try.prog w 0 (fun _ => true) true n 22 (([c0, c1, c2, c3, c4].drop 2).take (Try.prog.cellsOf 22)) = some y2 := hg 2 _ rfl
      rw [Try.cells22] at g2
      replace g2 : DataW.trod enc Try.prog w 0 (fun _ => true) true n 22 [c2] = some y2 := g2
      have g3 : DataW.trod enc Try.prog w 0 (fun _ => true) true n 3 (([c0, c1, c2, c3, c4].drop 3).take (Try.prog.cellsOf 3)) = some y3 := hg 3 _ rfl
      rw [Try.cells3] at g3
      replace g3 : DataW.trod enc Try.prog w 0 (fun _ => true) true n 3 [c3] = some y3 := g3
      have g4 : DataW.trod enc Try.prog w 0 (fun _ => true) true n 4 (([c0, c1, c2, c3, c4].drop 4).take (Try.prog.cellsOf 4)) = some y4 := hg 4 _ rfl
      rw [Try.cells4] at g4
      replace g4 : DataW.trod enc Try.prog w 0 (fun _ => true) true n 4 [c4] = some y4 := g4
      obtain ⟨a, e0, q0, wa⟩ := DataW.trod_int Try.underlying3 g0
      obtain ⟨b, e1, q1, wb⟩ := DataW.trod_int Try.underlying3 g1
      obtain ⟨c, e3, q3, wc⟩ := DataW.trod_int Try.underlying3 g3
      obtain ⟨ao, ln, cap, rfl⟩ := slice_shape g2
      obtain ⟨nb, rfl⟩ : ∃ nb, c4 = .bool nb := by
        cases n with
        | zero => simp [DataW.trod] at g4
        | succ m =>
          simp only [DataW.trod, Try.underlying4] at g4
          cases c4 <;> first | exact ⟨_, rfl⟩ | (simp at g4; done)
      simp at e0 e1 e3
      subst e0 e1 e3
      have hw : (DataW.weightsEach Try.prog [3, 3, 22, 3, 4] [y0.1, y1.1, y2.1, y3.1, y4.1]).all (· ≤ reachBytes) = true := by
        rw [List.all_eq_true]
        intro k hk
        refine List.all_eq_true.1 hsz k (DataW.weights_mem_each hts hds k ?_)
        rw [hx.1]
        simpa [DataW.weights, Try.underlying37] using hk
      obtain ⟨ps, h1, h2, h3⟩ := open_probes_of (v := .slice ao ln cap) (d := y2.1) (pl := y2.2) (ts := [3, 3, 22, 3, 4]) (ds := [y0.1, y1.1, y2.1, y3.1, y4.1]) (j := 2) ⟨_, _, _, rfl⟩ ⟨n, g2⟩ hw rfl rfl
      exact ⟨a, b, c, nb, _, ps, rfl, h1, h2, h3, bounds_i64 wa, bounds_i64 wb, bounds_i64 wc⟩
end
end Go.Proofs.Yteedjgkinmkmoaa
