/- The law TablesFirst. -/
import Derived.Test.YtjepgpocmnijiaaZy3
import Derived.Test.YtjepgpocmnijiaaZy6
import Derived.Test.YtjepgpocmnijiaaZy42
import Derived.Test.YtjepgpocmnijiaaZy43
import Derived.Deep.CondSized
import Derived.JoinedCond
import Derived.ChangeMaps5
section
/- A list of resources among the arguments, opened. -/
namespace Go.Proofs.Ytjepgpocmnijiaa.rdBulk
open Go.ChangeShapes Go.WideShapes Go.ChangeAt Go.RowKit Go.Rd Go.Ck
set_option linter.unusedVariables false
set_option maxRecDepth 100000
theorem opensM_map {P : Program} {α β : Type} {E : Elem α} {t : TypeId} {m : α → Nat} {m' : β → Nat} {g : β → α} (f : α → β) (hg : ∀ x, g (f x) = x) (hm : ∀ x, m' (f x) = m x) (h : OpensM P E t m) : OpensM P (E.map g) t m' := by
  intro H enc w n cs x h1 h2
  obtain ⟨y, hy, hb⟩ := h h1 h2
  exact ⟨f y, fun c hc => by show E.R w c (g (f y)); rw [hg]; exact hy c hc, by rw [hm]; exact hb⟩
theorem co3 : Try.prog.cellsOf 3 = 1 := by kernel_rfl
theorem co4 : Try.prog.cellsOf 4 = 1 := by kernel_rfl
theorem co9 : Try.prog.cellsOf 9 = 1 := by kernel_rfl
theorem co48 : Try.prog.cellsOf 48 = 1 := by kernel_rfl
theorem co49 : Try.prog.cellsOf 49 = 1 := by kernel_rfl
theorem co50 : Try.prog.cellsOf 50 = 1 := by kernel_rfl
theorem co52 : Try.prog.cellsOf 52 = 8 := by kernel_rfl
theorem co55 : Try.prog.cellsOf 55 = 1 := by kernel_rfl
theorem co57 : Try.prog.cellsOf 57 = 3 := by kernel_rfl
theorem co101 : Try.prog.cellsOf 101 = 4 := by kernel_rfl
theorem oTgt : OpensM Try.prog tgtE 57 tgtM := opensM_map (fun x => ⟨x.1, x.2.1, x.2.2.1⟩) (fun _ => rfl) (fun _ => rfl)
  (opensM_struct Try.underlying57 (opensFM_cons rfl co9 (opensM_str Try.underlying9) (opensFM_cons rfl co9 (opensM_str Try.underlying9) (opensFM_cons rfl co55 (opensM_of (Rd.opens_float Try.underlying55)) (opensFM_nil _)))))
theorem oRul : OpensM Try.prog rulE 101 rulM := opensM_map (fun x => ⟨x.1, x.2.1, x.2.2.1, x.2.2.2.1⟩) (fun _ => rfl) (fun _ => rfl)
  (opensM_struct Try.underlying101 (opensFM_cons rfl co9 (opensM_str Try.underlying9) (opensFM_cons rfl co9 (opensM_str Try.underlying9) (opensFM_cons rfl co9 (opensM_str Try.underlying9) (opensFM_cons rfl co4 (opensM_of (Rd.opens_bool Try.underlying4)) (opensFM_nil _))))))
theorem oRes : OpensM Try.prog resE 52 resM := opensM_map (fun x => ⟨x.1, x.2.1, x.2.2.1, x.2.2.2.1, x.2.2.2.2.1, x.2.2.2.2.2.1, x.2.2.2.2.2.2.1, x.2.2.2.2.2.2.2.1⟩) (fun _ => rfl) (fun _ => rfl)
  (opensM_struct Try.underlying52 (opensFM_cons rfl co3 (opensM_of (Rd.opens_int Try.underlying3)) (opensFM_cons rfl co9 (opensM_str Try.underlying9)
    (opensFM_cons rfl co48 (opensM_slice Try.underlying48 co9 (show Try.prog.bytesOf 9 = 16 by kernel_rfl) (by decide) (by decide) (opensM_str Try.underlying9))
    (opensFM_cons rfl co49 (opensM_slice Try.underlying49 co57 (show Try.prog.bytesOf 57 = 40 by kernel_rfl) (by decide) (by decide) oTgt)
    (opensFM_cons rfl co9 (opensM_str Try.underlying9)
    (opensFM_cons rfl co50 (opensM_slice Try.underlying50 co101 (show Try.prog.bytesOf 101 = 56 by kernel_rfl) (by decide) (by decide) oRul)
    (opensFM_cons rfl co9 (opensM_str Try.underlying9) (opensFM_cons rfl co4 (opensM_of (Rd.opens_bool Try.underlying4)) (opensFM_nil _))))))))))
theorem open_res {H : Type} {enc : TypeId × Value → H} {W : World} {v : Value} {d : DataW H} {pl : List MemPlace} {ts : List TypeId} {ds : List (DataW H)} {j base : Nat} (hval : Value.okWide Try.prog W .any base 22 v) (hd : DataW.Trod enc Try.prog W 0 (fun _ => true) true 22 v d pl) (hsz : (DataW.weightsEach Try.prog ts ds).all (· ≤ reachBytes) = true) (hts : ts[j]? = some 22) (hds : ds[j]? = some d) :
    ∃ l : List Res, ResS W v l ∧ listM l ≤ Rows.uptoBulk d := by
  obtain ⟨a0, l0, c0, rfl⟩ := okWide_slice Try.underlying22 hval
  obtain ⟨l, ⟨v', q, r⟩, hm⟩ := openM_arg (opensM_slice Try.underlying22 co52 (show Try.prog.bytesOf 52 = 136 by kernel_rfl) (by decide) (by decide) oRes) hd hsz hts hds
  replace q : some (Value.slice a0 l0 c0) = some v' := q
  cases q
  exact ⟨l, r, hm⟩
end Go.Proofs.Ytjepgpocmnijiaa.rdBulk
end

section

namespace Go.Proofs.Ytjepgpocmnijiaa.tablesFirst
open Go.ChangeShapes Go.WideShapes Go.ChangeAt Go.RowKit
open Go.Ck Go.Proofs.Ytjepgpocmnijiaa
open Go.Proofs.Ytjepgpocmnijiaa.rdBulk
set_option linter.unusedVariables false
set_option maxRecDepth 100000
theorem walk {H : Type} (enc : TypeId × Value → H) (W : World) (base : Nat) (args : Array Value) (ds : List (DataW H)) (p : List MemPlace)
    (hval0 : ∀ (j : Nat) t v, Try.f14.params[j]? = some t → args[j]? = some v → Value.okWide Try.prog W .any base t v)
    (hA : DataW.TrodAll enc Try.prog W 0 (fun _ => true) true Try.f14.params.toList args.toList ds p)
    (hsz : (DataW.weightsEach Try.prog Try.f14.params.toList ds).all (· ≤ reachBytes) = true) (hk : Rows.uptoSmall H ds = true) :
    Calls Try.prog 14 args W fun e w' => e = .returned (.bool true) ∧ Below W.heap.size W w' := by
  have hval : ∀ (j : Nat) t v, Try.f14.params[j]? = some t → args[j]? = some v → Value.okWide Try.prog W .any base t v := hval0
  have hkb : Rows.uptoBulkAll ds ≤ 1048576 := of_decide_eq_true hk
  rw [Try.params14] at hA hval hsz
  obtain ⟨v0, v1, d0, d1, p0, p1, rfl, rfl, rfl, h0, h1⟩ := trodAll_two hA
  have hk0 := bulks.part_le (d := d0) (l := [d0, d1]) (by simp)
  obtain ⟨l0, r0, hM0⟩ := open_res (hval 0 22 v0 rfl rfl) h0 hsz (j := 0) rfl rfl
  obtain ⟨l1, rfl, rfl, rfl, hs1⟩ := Go.ChangeMaps.open_string Try.underlying9 (hval 1 9 v1 rfl rfl) h1
  exact first14 l0 l1 v0 W r0 (Nat.le_trans hM0 (Nat.le_trans hk0 hkb)) hs1

theorem own : ownKnob Try.prog.godebug = none := by kernel_rfl

set_option maxRecDepth 100000 in
theorem lifted (os : Os) (started : os.Started) (H : Type) (enc : TypeId × Value → H) (F : Stop.Interp) :
    ReturnsInHanded {} Try.checked os 14 .any ((Rows.OpenSpec.upto Rows.tablesFirstSpec).pre6 enc Try.prog Try.f14 Rows.tablesFirstUptoRow.domain false) (((Rows.OpenSpec.upto Rows.tablesFirstSpec).at F).post enc Try.prog Try.f14 false true false false) := by
  refine returnsInHanded_of_cond_sized (C := Try.checked) (s := Rows.OpenSpec.upto Rows.tablesFirstSpec) (k := Rows.uptoSmall) rfl own started (by kernel_rfl) Try.func14
    (OpenSpec.witness (enc := enc) (C := Try.checked) (s := Rows.OpenSpec.upto Rows.tablesFirstSpec) (k := Rows.uptoSmall) rfl false ⟨#[], #[.slice none 0 0, .string ⟨#[]⟩], []⟩ 8 (by kernel_rfl) (by kernel_rfl) (by kernel_rfl)
      (x := ([.nil, .lit (.string [])], [], [])) (by kernel_rfl) rfl (by kernel_rfl)) ?_
  intro W base args ds gs before hval hW _ hk hsz _
  obtain ⟨p, q, hA, hV, hpq, hfz, hnd⟩ := id hW
  obtain ⟨rfl, rfl⟩ := trodVars_none hV
  have e : ((Rows.OpenSpec.upto Rows.tablesFirstSpec).bare.plain.varTypes Try.checked.prog) = [] := rfl
  rw [e, List.append_nil, List.append_nil] at hsz
  rw [List.append_nil] at hk
  refine (walk enc W base args ds p hval hA hsz hk).mono ?_
  rintro e W' ⟨rfl, hb⟩
  refine ⟨_, rfl, law_post (s := Rows.tablesFirstSpec) Try.laidOut (by kernel_rfl) rfl Try.underlying4 rfl hW ?_ hb⟩
  intro ds' h
  have h2 : ds'.length = Try.f14.params.toList.length := h
  rw [Try.params14] at h2
  match ds', h2 with
  | [_, _], _ => rfl

theorem fact1 : (Rows.tablesFirstUptoRow.inPlace == Try.checked.prog.inPlace 14) = true := by kernel_rfl
theorem fact2 : (Rows.tablesFirstUptoRow.unfollowed == Try.checked.prog.unfollowed 14) = true := by kernel_rfl
theorem fact3 : (Rows.tablesFirstUptoRow.recurses == Try.checked.prog.recurses 14) = true := by kernel_rfl
theorem fact4 : (Rows.tablesFirstUptoRow.named == Try.checked.prog.varsNamed 14) = true := by kernel_rfl
theorem closed : joinedFacts Try.checked.prog 14 Try.f14 (Rows.OpenSpec.upto Rows.tablesFirstSpec).bare Rows.tablesFirstUptoRow = true := by
  unfold joinedFacts
  rw [fact1, fact2, fact3, fact4]
  kernel_rfl
/-- THE STATEMENT. -/
theorem proved : Rows.TablesFirstUptoSaid :=
  OpenClaim.holds_of_cond 14 Try.f14 rfl rfl rfl rfl rfl rfl rfl ⟨rfl, rfl, rfl, rfl, rfl⟩ rfl rfl rfl rfl rfl (by kernel_rfl) Try.func14 closed
    (of_decide_eq_true (by kernel_rfl)) (by unfold Func.isWrapper; first | (rw [if_pos (by decide +kernel)]; kernel_rfl) | (rw [if_neg (by decide +kernel)]; exact ⟨rfl, rfl⟩))
    (fun os started H enc _ F => lifted os started H enc F)
end Go.Proofs.Ytjepgpocmnijiaa.tablesFirst
end
