/- The statement DrawSources in its bounded form: the arguments opened, and the claim's frame. -/
import Derived.Test.YtfdmfihifjlidaaSources
import Derived.Test.YtfdmfihifjlidaaRdBulk
namespace Go.Proofs.Ytfdmfihifjlidaa.drawSources
open Go.ChangeShapes Go.WideShapes Go.ChangeAt Go.RowKit
open Go.Tp
open Go.Proofs.Ytfdmfihifjlidaa.rdBulk
set_option linter.unusedVariables false
set_option maxRecDepth 100000
theorem co3 : Try.prog.cellsOf 3 = 1 := by kernel_rfl
theorem co4 : Try.prog.cellsOf 4 = 1 := by kernel_rfl
theorem co22 : Try.prog.cellsOf 22 = 1 := by kernel_rfl
theorem co36 : Try.prog.cellsOf 36 = 1 := by kernel_rfl
theorem co40 : Try.prog.cellsOf 40 = 4 := by kernel_rfl
def mOp : OpT → Nat := fun o => ((o.1.map fun _ => 1).sum + 1) + (1 + (1 + (1 + 0)))
theorem oOp : OpensM Try.prog opE 40 mOp := opensM_struct Try.underlying40 (opensFM_cons rfl co36 (opensM_slice Try.underlying36 co22 (show Try.prog.bytesOf 22 = 8 by kernel_rfl) (by decide) (by decide) (opensM_of (Rd.opens_u64 Try.underlying22))) (opensFM_cons rfl co3 (opensM_of (Rd.opens_int Try.underlying3)) (opensFM_cons rfl co4 (opensM_of (Rd.opens_bool Try.underlying4)) (opensFM_cons rfl co4 (opensM_of (Rd.opens_bool Try.underlying4)) (opensFM_nil _)))))
theorem ones (l : List Int) : (l.map fun _ => 1).sum = l.length := by
  induction l with
  | nil => rfl
  | cons a l ih => simp only [List.map_cons, List.sum_cons, List.length_cons, ih]; omega
theorem mem_sum (f : OpT → Nat) : ∀ (l : List OpT) (o : OpT), o ∈ l → f o ≤ (l.map f).sum := by
  intro l o h
  induction l with
  | nil => cases h
  | cons a l ih =>
    rw [List.map_cons, List.sum_cons]
    rcases List.mem_cons.1 h with rfl | h
    · omega
    · have := ih h; omega
section
variable {H : Type} {enc : TypeId × Value → H} {W : World} {v : Value} {d : DataW H} {pl : List MemPlace} {ts : List TypeId} {ds : List (DataW H)} {j base : Nat}
theorem open_ops (hval : Value.okWide Try.prog W .any base 32 v) (hd : DataW.Trod enc Try.prog W 0 (fun _ => true) true 32 v d pl) (hsz : (DataW.weightsEach Try.prog ts ds).all (· ≤ reachBytes) = true) (hts : ts[j]? = some 32) (hds : ds[j]? = some d) (hb : Rows.uptoBulk d ≤ 1048576) :
    ∃ hs : List OpT, Rd.SliceOf opE W v hs ∧ ∀ o ∈ hs, o.1.length ≤ 1048576 := by
  obtain ⟨a0, l0, c0, rfl⟩ := okWide_slice Try.underlying32 hval
  obtain ⟨hs, ⟨v', q, r⟩, hm⟩ := openM_arg (opensM_slice Try.underlying32 co40 (show Try.prog.bytesOf 40 = 40 by kernel_rfl) (by decide) (by decide) oOp) hd hsz hts hds
  replace q : some (Value.slice a0 l0 c0) = some v' := q
  cases q
  refine ⟨hs, r, fun o ho => ?_⟩
  have h1 := mem_sum mOp hs o ho
  have h2 : (hs.map mOp).sum + 1 ≤ Rows.uptoBulk d := hm
  have h3 : mOp o = ((o.1.map fun _ => 1).sum + 1) + (1 + (1 + (1 + 0))) := rfl
  rw [ones] at h3
  omega
end
theorem walk {H : Type} (enc : TypeId × Value → H) (W : World) (base : Nat) (args : Array Value) (ds : List (DataW H)) (p : List MemPlace)
    (hval0 : ∀ (j : Nat) t v, Try.f4.params[j]? = some t → args[j]? = some v → Value.okWide Try.prog W .any base t v)
    (hA : DataW.TrodAll enc Try.prog W 0 (fun _ => true) true Try.f4.params.toList args.toList ds p)
    (hsz : (DataW.weightsEach Try.prog Try.f4.params.toList ds).all (· ≤ reachBytes) = true) (hk : Rows.uptoSmall H ds = true) :
    Calls Try.prog 4 args W fun e w' => e = .returned (.bool true) ∧ Below W.heap.size W w' := by
  have hval : ∀ (j : Nat) t v, Try.f4.params[j]? = some t → args[j]? = some v → Value.okWide Try.prog W .any base t v := hval0
  have hkb : Rows.uptoBulkAll ds ≤ 1048576 := of_decide_eq_true hk
  rw [Try.params4] at hA hval hsz
  obtain ⟨v0, v1, v2, d0, d1, d2, p0, p1, p2, rfl, rfl, rfl, h0, h1, h2⟩ := trodAll_three hA
  have hk1 := bulks.part_le (d := d1) (l := [d0, d1, d2]) (by simp)
  obtain ⟨st, rfl⟩ := okWide_int Try.underlying22 (hval 0 22 v0 rfl rfl)
  obtain ⟨script, r1, hw⟩ := open_ops (hval 1 32 v1 rfl rfl) h1 hsz (j := 1) rfl rfl (Nat.le_trans hk1 hkb)
  obtain ⟨b, rfl⟩ := okWide_bool Try.underlying4 (hval 2 4 v2 rfl rfl)
  exact sources st script v1 b W r1 hw

theorem own : ownKnob Try.prog.godebug = none := by kernel_rfl

set_option maxRecDepth 100000 in
theorem lifted (os : Os) (started : os.Started) (H : Type) (enc : TypeId × Value → H) (F : Stop.Interp) :
    ReturnsInHanded {} Try.checked os 4 .any ((Rows.OpenSpec.upto Rows.drawSourcesSpec).pre6 enc Try.prog Try.f4 Rows.drawSourcesUptoRow.domain false) (((Rows.OpenSpec.upto Rows.drawSourcesSpec).at F).post enc Try.prog Try.f4 false true false false) := by
  refine returnsInHanded_of_cond_sized (C := Try.checked) (s := Rows.OpenSpec.upto Rows.drawSourcesSpec) (k := Rows.uptoSmall) rfl own started (by kernel_rfl) Try.func4
    (OpenSpec.witness (enc := enc) (C := Try.checked) (s := Rows.OpenSpec.upto Rows.drawSourcesSpec) (k := Rows.uptoSmall) rfl false ⟨#[], #[.int .u64 0, .slice none 0 0, .bool false], []⟩ 8 (by kernel_rfl) (by kernel_rfl) (by kernel_rfl)
      (x := ([.lit (.int .u64 0), .nil, .lit (.bool false)], [], [])) (by kernel_rfl) rfl (by kernel_rfl)) ?_
  intro W base args ds gs before hval hW _ hk hsz _
  obtain ⟨p, q, hA, hV, hpq, hfz, hnd⟩ := id hW
  obtain ⟨rfl, rfl⟩ := trodVars_none hV
  have e : ((Rows.OpenSpec.upto Rows.drawSourcesSpec).bare.plain.varTypes Try.checked.prog) = [] := rfl
  rw [e, List.append_nil, List.append_nil] at hsz
  rw [List.append_nil] at hk
  refine (walk enc W base args ds p hval hA hsz hk).mono ?_
  rintro e W' ⟨rfl, hb⟩
  refine ⟨_, rfl, law_post (s := Rows.drawSourcesSpec) Try.laidOut (by kernel_rfl) rfl Try.underlying4 rfl hW ?_ hb⟩
  intro ds' h
  have h2 : ds'.length = Try.f4.params.toList.length := h
  rw [Try.params4] at h2
  match ds', h2 with
  | [_, _, _], _ => rfl

/-- THE STATEMENT. -/
theorem proved : Rows.DrawSourcesUptoSaid :=
  OpenClaim.holds_of_cond 4 Try.f4 rfl rfl rfl rfl rfl rfl rfl ⟨rfl, rfl, rfl, rfl, rfl⟩ rfl rfl rfl rfl rfl (by kernel_rfl) Try.func4 (by kernel_rfl)
    (of_decide_eq_true (by kernel_rfl)) (by unfold Func.isWrapper; first | (rw [if_pos (by decide +kernel)]; kernel_rfl) | (rw [if_neg (by decide +kernel)]; exact ⟨rfl, rfl⟩))
    (fun os started H enc _ F => lifted os started H enc F)
end Go.Proofs.Ytfdmfihifjlidaa.drawSources
