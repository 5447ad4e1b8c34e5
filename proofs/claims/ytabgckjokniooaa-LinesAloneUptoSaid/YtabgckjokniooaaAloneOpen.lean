/- The law LinesAlone at its arguments as they are handed in, their bulk bounded. -/
import Derived.Test.YtabgckjokniooaaLan
import Derived.Test.YtabgckjokniooaaLop
import Derived.Test.YtabgckjokniooaaBulk
namespace Go.Proofs.Ytabgckjokniooaa.linesAlone
open Go.ChangeShapes Go.WideShapes Go.ChangeAt Go.RowKit Go.Ln Go.Mp Go.Tr
set_option linter.unusedVariables false
set_option maxRecDepth 100000
section
variable {H : Type} {enc : TypeId × Value → H} {W : World} {v : Value} {d : DataW H} {pl : List MemPlace} {ts : List TypeId} {ds : List (DataW H)} {j base : Nat}
theorem trod_len {ao : Option Addr} {n c : Nat} (h : DataW.Trod enc Try.prog W 0 (fun _ => true) true 22 (.slice ao n c) d pl) : n ≤ Rows.uptoBulk d := by
  obtain ⟨fuel, hf⟩ := h
  rcases Deep.open_slice1 Try.underlying22 co5 hf with ⟨hcs, hx⟩ | ⟨a, len, cap, m, k, V, D, Pl, hcs, _, hl, hm, hmm, hx, hel⟩
  · simp [Value.cells] at hcs
    obtain ⟨rfl, rfl, rfl⟩ := hcs
    exact Nat.zero_le _
  · simp [Value.cells] at hcs
    obtain ⟨rfl, rfl, rfl⟩ := hcs
    have hd2 : d = .slice ((List.range n).map D) ((List.range (m - n)).map fun j => D (n + j)) := by
      have := congrArg Prod.fst hx; exact this
    have h2 := bulks.slice_le ((List.range n).map D) ((List.range (m - n)).map fun j => D (n + j))
    rw [← hd2, List.length_map, List.length_range] at h2
    omega
end
theorem walk {H : Type} (enc : TypeId × Value → H) (W : World) (base : Nat) (args : Array Value) (ds : List (DataW H)) (p : List MemPlace)
    (hval0 : ∀ (j : Nat) t v, Try.f3.params[j]? = some t → args[j]? = some v → Value.okWide Try.prog W .any base t v)
    (hA : DataW.TrodAll enc Try.prog W 0 (fun _ => true) true Try.f3.params.toList args.toList ds p) (hsh : W.ShapedOpen Try.prog)
    (hsz : (DataW.weightsEach Try.prog Try.f3.params.toList ds).all (· ≤ reachBytes) = true) (hk : Rows.uptoSmall H ds = true) :
    Calls Try.prog 3 args W fun e w' => e = .returned (.bool true) ∧ Below W.heap.size W w' := by
  have hval : ∀ (j : Nat) t v, Try.f3.params[j]? = some t → args[j]? = some v → Value.okWide Try.prog W .any base t v := hval0
  have hkb : Rows.uptoBulkAll ds ≤ 1048576 := of_decide_eq_true hk
  rw [Try.params3] at hA hval hsz
  obtain ⟨v0, v1, d0, d1, p0, p1, rfl, rfl, _, h0, h1⟩ := trodAll_two hA
  obtain ⟨m, hm⟩ := hm_of hsh
  obtain ⟨ob, ho, _⟩ := cell_obj hm
  have h0w := heap_lt ho
  have hk0 := bulks.part_le (d := d0) (l := [d0, d1]) (by simp)
  have hk1 := bulks.part_le (d := d1) (l := [d0, d1]) (by simp)
  obtain ⟨b0, l0, hb0, hs0, _⟩ := open_bytes (hval 0 22 v0 rfl rfl) h0 hsz (j := 0) rfl rfl h0w
  obtain ⟨b1, l1, hb1, hs1, _⟩ := open_bytes (hval 1 22 v1 rfl rfl) h1 hsz (j := 1) rfl rfl h0w
  obtain ⟨ao0, c0, rfl⟩ := hb0.shape
  obtain ⟨ao1, c1, rfl⟩ := hb1.shape
  have hn0 := trod_len h0
  have hn1 := trod_len h1
  exact alone_walk b0 b1 _ _ l0 l1 W m hb0 hs0 hb1 hs1 (by omega) (by omega) hm
end Go.Proofs.Ytabgckjokniooaa.linesAlone
