/- For any texts and any two lists of nodes, of bulk at most 1048576 together, the law EmitJoins answers true and leaves its arguments as they were. -/
import Derived.Test.YtmlcljbpobgdiaaJoinsWalk
import Derived.Test.YtmlcljbpobgdiaaFrame
import Derived.Deep.CondSized
import Derived.JoinedCond
namespace Go.Proofs.Ytmlcljbpobgdiaa.emitJoins
open Go.ChangeShapes Go.WideShapes Go.ChangeAt Go.RowKit
open Go.Em
set_option linter.unusedVariables false
set_option maxRecDepth 100000
theorem co3 : Try.prog.cellsOf 3 = 1 := by kernel_rfl
theorem co4 : Try.prog.cellsOf 4 = 1 := by kernel_rfl
theorem co9 : Try.prog.cellsOf 9 = 1 := by kernel_rfl
theorem co43 : Try.prog.cellsOf 43 = 1 := by kernel_rfl
theorem co45 : Try.prog.cellsOf 45 = 6 := by kernel_rfl
theorem oNode : Rd.Opens Try.prog nodeE 45 := Rd.opens_struct Try.underlying45 (Rd.opensF_cons rfl co3 (Rd.opens_int Try.underlying3) (Rd.opensF_cons rfl co9 (Rd.opens_str Try.underlying9) (Rd.opensF_cons rfl co9 (Rd.opens_str Try.underlying9) (Rd.opensF_cons rfl co4 (Rd.opens_bool Try.underlying4) (Rd.opensF_cons rfl co3 (Rd.opens_int Try.underlying3) (Rd.opensF_cons rfl co43 (Rd.opens_slice Try.underlying43 co3 (show Try.prog.bytesOf 3 = 8 by kernel_rfl) (by decide) (by decide) (Rd.opens_int Try.underlying3)) (Rd.opensF_nil _)))))))
section
variable {H : Type} {enc : TypeId × Value → H} {W : World} {v : Value} {d : DataW H} {pl : List MemPlace} {ts : List TypeId} {ds : List (DataW H)} {j base : Nat}
theorem open_nodes (hval : Value.okWide Try.prog W .any base 23 v) (hd : DataW.Trod enc Try.prog W 0 (fun _ => true) true 23 v d pl) (hsz : (DataW.weightsEach Try.prog ts ds).all (· ≤ reachBytes) = true) (hts : ts[j]? = some 23) (hds : ds[j]? = some d) :
    ∃ hs : List ENode, Rd.SliceOf nodeE W v hs := by
  obtain ⟨a0, l0, c0, rfl⟩ := okWide_slice Try.underlying23 hval
  obtain ⟨hs, v', q, r⟩ := Rd.open_arg (Rd.opens_slice Try.underlying23 co45 (show Try.prog.bytesOf 45 = 80 by kernel_rfl) (by decide) (by decide) oNode) hd hsz hts hds
  replace q : some (Value.slice a0 l0 c0) = some v' := q
  cases q
  exact ⟨hs, r⟩
theorem trod_str {enc : TypeId × Value → H} {w : World} {n : Nat} {v : Value} {x : DataW H} {p : List MemPlace} (h : DataW.trod enc Try.prog w 0 (fun _ => true) true n 9 [v] = some (x, p)) : ∃ s : ByteArray, v = .string s ∧ x = .lit (.string s.data.toList) ∧ s.size ≤ maxLen := by
  cases n with
  | zero => simp [DataW.trod] at h
  | succ n =>
    unfold DataW.trod at h
    rw [Try.underlying9] at h
    split at h <;> simp_all
theorem bulk_strs (f : Nat → ByteArray) (D : Nat → DataW H) : ∀ l : List Nat, (∀ i ∈ l, D i = .lit (.string (f i).data.toList)) → Rows.uptoBulkAll (l.map D) = ((l.map f).map ByteArray.size).sum + l.length
  | [], _ => rfl
  | i :: l, h => by
    have e : (f i).data.toList.length = (f i).size := by rw [Array.length_toList]; rfl
    simp only [List.map_cons, Rows.uptoBulkAll, bulk_strs f D l (fun k hk => h k (List.mem_cons_of_mem _ hk)), h i List.mem_cons_self, Rows.uptoBulk, List.sum_cons, List.length_cons, e]
    omega
theorem open_docs (hval : Value.okWide Try.prog W .any base 22 v) (hd : DataW.Trod enc Try.prog W 0 (fun _ => true) true 22 v d pl) (hbk : Rows.uptoBulk d ≤ 1048576) :
    ∃ docs : List ByteArray, Rd.SliceOf Rd.str W v docs ∧ (docs.map ByteArray.size).sum + docs.length ≤ 1048576 := by
  obtain ⟨a0, len0, cap0, rfl⟩ := okWide_slice Try.underlying22 hval
  obtain ⟨fuel, hf⟩ := hd
  rcases Deep.open_slice1 Try.underlying22 co9 hf with ⟨hcs, hx⟩ | ⟨a, len, cap, m, n, V, D, Pl, hcs, _, hl, hm, hmm, hx, hel⟩
  · simp [Value.cells] at hcs
    obtain ⟨rfl, rfl, rfl⟩ := hcs
    exact ⟨[], ⟨by simp, none, 0, rfl, .inl rfl⟩, by simp⟩
  · simp [Value.cells] at hcs
    obtain ⟨rfl, rfl, rfl⟩ := hcs
    simp only [if_true] at hmm
    subst hmm
    have hb : ∀ i, i < len0 → ∃ s : ByteArray, V i = .string s ∧ D i = .lit (.string s.data.toList) ∧ s.size ≤ maxLen := fun i hi => trod_str (hel i (by omega)).2
    obtain ⟨f, hfv⟩ := Deep.choose_lt hb
    have hlen : ((List.range len0).map f).length = len0 := by simp
    have hd2 : d = .slice ((List.range len0).map D) ((List.range (m - len0)).map fun j => D (len0 + j)) := by
      have := congrArg Prod.fst hx; exact this
    have hsum : (((List.range len0).map f).map ByteArray.size).sum + ((List.range len0).map f).length ≤ 1048576 := by
      have h1 := bulk_strs f D (List.range len0) (fun i hi => (hfv i (List.mem_range.1 hi)).2.1)
      have h2 := bulks.slice_elems ((List.range len0).map D) ((List.range (m - len0)).map fun j => D (len0 + j))
      rw [← hd2] at h2
      rw [List.length_range] at h1
      rw [hlen]
      omega
    refine ⟨(List.range len0).map f, ⟨by omega, some a, m, by rw [hlen], ?_⟩, hsum⟩
    rcases Nat.eq_zero_or_pos len0 with h0 | h0
    · subst h0; exact .inl rfl
    · right
      obtain ⟨b, off, spot⟩ := a
      have h00 := (hel 0 (by omega)).1
      have hspot : spot = none := by
        cases spot with
        | none => rfl
        | some s => simp [Addr.add, World.cell?] at h00; split at h00 <;> simp at h00
      subst hspot
      refine ⟨b, off, rfl, World.block_lt_of_cell? W _ h00, fun i x hi => ?_⟩
      have hi' : i < len0 := by have := (List.getElem?_eq_some_iff.1 hi).1; simpa using this
      have hxi : x = f i := by simp [hi'] at hi; exact hi.symm
      subst hxi
      have h1 := (hel i (by omega)).1
      have e : (⟨b, off, none⟩ : Addr).add i = ⟨b, off + i, none⟩ := by unfold Addr.add; split <;> simp_all
      rw [e, (hfv i hi').1] at h1
      exact ⟨by simpa [Rd.cellsAt, Rd.str] using h1, (hfv i hi').2.2⟩
end
theorem walk {H : Type} (enc : TypeId × Value → H) (W : World) (base : Nat) (args : Array Value) (ds : List (DataW H)) (p : List MemPlace)
    (hval0 : ∀ (j : Nat) t v, Try.f3.params[j]? = some t → args[j]? = some v → Value.okWide Try.prog W .any base t v)
    (hA : DataW.TrodAll enc Try.prog W 0 (fun _ => true) true Try.f3.params.toList args.toList ds p)
    (hsz : (DataW.weightsEach Try.prog Try.f3.params.toList ds).all (· ≤ reachBytes) = true) (hk : Rows.uptoSmall H ds = true) :
    Calls Try.prog 3 args W fun e w' => e = .returned (.bool true) ∧ Below W.heap.size W w' := by
  have hval : ∀ (j : Nat) t v, Try.f3.params[j]? = some t → args[j]? = some v → Value.okWide Try.prog W .any base t v := hval0
  have hkb : Rows.uptoBulkAll ds ≤ 1048576 := of_decide_eq_true hk
  rw [Try.params3] at hA hval hsz
  obtain ⟨v0, v1, v2, d0, d1, d2, p0, p1, p2, rfl, rfl, rfl, h0, h1, h2⟩ := trodAll_three hA
  have hk0 := bulks.part_le (d := d0) (l := [d0, d1, d2]) (by simp)
  obtain ⟨docs, r0, hs⟩ := open_docs (hval 0 22 v0 rfl rfl) h0 (Nat.le_trans hk0 hkb)
  obtain ⟨a, r1⟩ := open_nodes (hval 1 23 v1 rfl rfl) h1 hsz (j := 1) rfl rfl
  obtain ⟨b, r2⟩ := open_nodes (hval 2 23 v2 rfl rfl) h2 hsz (j := 2) rfl rfl
  exact joins docs a b v0 v1 v2 W r0 r1 r2 hs

theorem own : ownKnob Try.prog.godebug = none := by kernel_rfl

set_option maxRecDepth 100000 in
theorem lifted (os : Os) (started : os.Started) (H : Type) (enc : TypeId × Value → H) (F : Stop.Interp) :
    ReturnsInHanded {} Try.checked os 3 .any ((Rows.OpenSpec.upto Rows.emitJoinsSpec).pre6 enc Try.prog Try.f3 Rows.emitJoinsUptoRow.domain false) (((Rows.OpenSpec.upto Rows.emitJoinsSpec).at F).post enc Try.prog Try.f3 false true false false) := by
  refine returnsInHanded_of_cond_sized (C := Try.checked) (s := Rows.OpenSpec.upto Rows.emitJoinsSpec) (k := Rows.uptoSmall) rfl own started (by kernel_rfl) Try.func3
    (OpenSpec.witness (enc := enc) (C := Try.checked) (s := Rows.OpenSpec.upto Rows.emitJoinsSpec) (k := Rows.uptoSmall) rfl false ⟨#[], #[.slice none 0 0, .slice none 0 0, .slice none 0 0], []⟩ 8 (by kernel_rfl) (by kernel_rfl) (by kernel_rfl)
      (x := ([.nil, .nil, .nil], [], [])) (by kernel_rfl) rfl (by kernel_rfl)) ?_
  intro W base args ds gs before hval hW _ hk hsz _
  obtain ⟨p, q, hA, hV, hpq, hfz, hnd⟩ := id hW
  obtain ⟨rfl, rfl⟩ := trodVars_none hV
  have e : ((Rows.OpenSpec.upto Rows.emitJoinsSpec).bare.plain.varTypes Try.checked.prog) = [] := rfl
  rw [e, List.append_nil, List.append_nil] at hsz
  rw [List.append_nil] at hk
  refine (walk enc W base args ds p hval hA hsz hk).mono ?_
  rintro e W' ⟨rfl, hb⟩
  refine ⟨_, rfl, law_post (s := Rows.emitJoinsSpec) Try.laidOut (by kernel_rfl) rfl Try.underlying4 rfl hW ?_ hb⟩
  intro ds' h
  have h2 : ds'.length = Try.f3.params.toList.length := h
  rw [Try.params3] at h2
  match ds', h2 with
  | [_, _, _], _ => rfl

/-- THE STATEMENT. -/
theorem proved : Rows.EmitJoinsUptoSaid :=
  OpenClaim.holds_of_cond 3 Try.f3 rfl rfl rfl rfl rfl rfl rfl ⟨rfl, rfl, rfl, rfl, rfl⟩ rfl rfl rfl rfl rfl (by kernel_rfl) Try.func3 (by kernel_rfl)
    (of_decide_eq_true (by kernel_rfl)) (by unfold Func.isWrapper; first | (rw [if_pos (by decide +kernel)]; kernel_rfl) | (rw [if_neg (by decide +kernel)]; exact ⟨rfl, rfl⟩))
    (fun os started H enc _ F => lifted os started H enc F)
end Go.Proofs.Ytmlcljbpobgdiaa.emitJoins
