/- Tables, healthy endpoints and requests among a law's arguments, opened. -/
import Derived.Test.YtnnoccojjeadhaaDec
namespace Go.Proofs.Ytnnoccojjeadhaa
open Go.ChangeShapes Go.WideShapes Go.ChangeAt Go.RowKit
open Go.Dec
set_option linter.unusedVariables false
theorem co3 : Try.prog.cellsOf 3 = 1 := by kernel_rfl
theorem co4 : Try.prog.cellsOf 4 = 1 := by kernel_rfl
theorem co9 : Try.prog.cellsOf 9 = 1 := by kernel_rfl
theorem co22 : Try.prog.cellsOf 22 = 1 := by kernel_rfl
theorem co23 : Try.prog.cellsOf 23 = 1 := by kernel_rfl
theorem co26 : Try.prog.cellsOf 26 = 1 := by kernel_rfl
theorem co33 : Try.prog.cellsOf 33 = 1 := by kernel_rfl
theorem co34 : Try.prog.cellsOf 34 = 1 := by kernel_rfl
theorem co39 : Try.prog.cellsOf 39 = 1 := by kernel_rfl
theorem co36 : Try.prog.cellsOf 36 = 4 := by kernel_rfl
theorem co41 : Try.prog.cellsOf 41 = 3 := by kernel_rfl
theorem co53 : Try.prog.cellsOf 53 = 2 := by kernel_rfl
theorem co60 : Try.prog.cellsOf 60 = 3 := by kernel_rfl
theorem co50 : Try.prog.cellsOf 50 = 2 := by kernel_rfl
theorem oShare : Rd.Opens Try.prog shareE 53 := Rd.opens_struct Try.underlying53 (Rd.opensF_cons rfl co9 (Rd.opens_str Try.underlying9) (Rd.opensF_cons rfl co26 (Rd.opens_float Try.underlying26) (Rd.opensF_nil _)))
theorem oEntry : Rd.Opens Try.prog entryE 41 := Rd.opens_struct Try.underlying41 (Rd.opensF_cons rfl co9 (Rd.opens_str Try.underlying9) (Rd.opensF_cons rfl co9 (Rd.opens_str Try.underlying9) (Rd.opensF_cons rfl co39 (Rd.opens_slice Try.underlying39 co53 (show Try.prog.bytesOf 53 = 24 by kernel_rfl) (by decide) (by decide) oShare) (Rd.opensF_nil _))))
theorem oPermit : Rd.Opens Try.prog permitE 60 := Rd.opens_struct Try.underlying60 (Rd.opensF_cons rfl co9 (Rd.opens_str Try.underlying9) (Rd.opensF_cons rfl co9 (Rd.opens_str Try.underlying9) (Rd.opensF_cons rfl co4 (Rd.opens_bool Try.underlying4) (Rd.opensF_nil _))))
theorem oHost : Rd.Opens Try.prog hostE 36 := Rd.opens_struct Try.underlying36 (Rd.opensF_cons rfl co9 (Rd.opens_str Try.underlying9) (Rd.opensF_cons rfl co9 (Rd.opens_str Try.underlying9) (Rd.opensF_cons rfl co33 (Rd.opens_slice Try.underlying33 co41 (show Try.prog.bytesOf 41 = 56 by kernel_rfl) (by decide) (by decide) oEntry) (Rd.opensF_cons rfl co34 (Rd.opens_slice Try.underlying34 co60 (show Try.prog.bytesOf 60 = 40 by kernel_rfl) (by decide) (by decide) oPermit) (Rd.opensF_nil _)))))
theorem oTables : Rd.Opens Try.prog tablesE 25 := Rd.opens_struct Try.underlying25 (Rd.opensF_cons rfl co3 (Rd.opens_int Try.underlying3) (Rd.opensF_cons rfl co22 (Rd.opens_slice Try.underlying22 co36 (show Try.prog.bytesOf 36 = 80 by kernel_rfl) (by decide) (by decide) oHost) (Rd.opensF_cons rfl co23 (Rd.opens_slice Try.underlying23 co9 (show Try.prog.bytesOf 9 = 16 by kernel_rfl) (by decide) (by decide) (Rd.opens_str Try.underlying9)) (Rd.opensF_nil _))))
abbrev Req := ByteArray × (ByteArray × (ByteArray × (Nat × (Int × (Int × (Int × Unit))))))
def reqE : Rd.Elem Req := Rd.pair Rd.str (Rd.pair Rd.str (Rd.pair Rd.str (Rd.pair Rd.float (Rd.pair Rd.int (Rd.pair Rd.u64 (Rd.pair Rd.u64 Rd.none))))))
theorem co27 : Try.prog.cellsOf 27 = 1 := by kernel_rfl
theorem co25 : Try.prog.cellsOf 25 = 3 := by kernel_rfl
theorem co29 : Try.prog.cellsOf 29 = 7 := by kernel_rfl
theorem oReq : Rd.Opens Try.prog reqE 29 := Rd.opens_struct Try.underlying29 (Rd.opensF_cons rfl co9 (Rd.opens_str Try.underlying9) (Rd.opensF_cons rfl co9 (Rd.opens_str Try.underlying9) (Rd.opensF_cons rfl co9 (Rd.opens_str Try.underlying9) (Rd.opensF_cons rfl co26 (Rd.opens_float Try.underlying26) (Rd.opensF_cons rfl co3 (Rd.opens_int Try.underlying3) (Rd.opensF_cons rfl co27 (Rd.opens_u64 Try.underlying27) (Rd.opensF_cons rfl co27 (Rd.opens_u64 Try.underlying27) (Rd.opensF_nil _))))))))
theorem oHealthy : Rd.Opens Try.prog healthyE 50 := Rd.opens_struct Try.underlying50 (Rd.opensF_cons rfl co9 (Rd.opens_str Try.underlying9) (Rd.opensF_cons rfl co23 (Rd.opens_slice Try.underlying23 co9 (show Try.prog.bytesOf 9 = 16 by kernel_rfl) (by decide) (by decide) (Rd.opens_str Try.underlying9)) (Rd.opensF_nil _)))
section
variable {H : Type} {enc : TypeId × Value → H} {W : World} {v : Value} {d : DataW H} {pl : List MemPlace} {ts : List TypeId} {ds : List (DataW H)} {j base : Nat}
theorem open_tables (hval : Value.okWide Try.prog W .any base 25 v) (hd : DataW.Trod enc Try.prog W 0 (fun _ => true) true 25 v d pl) (hsz : (DataW.weightsEach Try.prog ts ds).all (· ≤ reachBytes) = true) (hts : ts[j]? = some 25) (hds : ds[j]? = some d) :
    ∃ (t : Go.Dec.Tables) (v1 v2 : Value), v = .agg #[.int .i64 t.1, v1, v2] ∧ (-9223372036854775808 ≤ t.1 ∧ t.1 ≤ 9223372036854775807) ∧ Rd.SliceOf hostE W v1 t.2.1 ∧ Rd.SliceOf Rd.str W v2 t.2.2.1 := by
  obtain ⟨cs, rfl, hcsz⟩ := okWide_struct Try.underlying25 hval
  obtain ⟨t, ⟨q0, b0⟩, ⟨v1, q1, r1⟩, ⟨v2, q2, r2⟩, _⟩ := Rd.open_arg oTables hd hsz hts hds
  obtain ⟨l⟩ := cs
  match l, hcsz.trans co25 with
  | [c0, c1, c2], _ =>
    replace q0 : some c0 = some (.int .i64 t.1) := q0
    replace q1 : some c1 = some v1 := q1
    replace q2 : some c2 = some v2 := q2
    cases q0; cases q1; cases q2
    exact ⟨t, _, _, rfl, b0, r1, r2⟩
theorem open_req (hval : Value.okWide Try.prog W .any base 29 v) (hd : DataW.Trod enc Try.prog W 0 (fun _ => true) true 29 v d pl) (hsz : (DataW.weightsEach Try.prog ts ds).all (· ≤ reachBytes) = true) (hts : ts[j]? = some 29) (hds : ds[j]? = some d) :
    ∃ (m h p : ByteArray) (u : Nat) (n a b : Int), v = .agg #[.string m, .string h, .string p, .float .f64 u, .int .i64 n, .int .u64 a, .int .u64 b] ∧ m.size ≤ maxLen ∧ h.size ≤ maxLen ∧ p.size ≤ maxLen ∧ u < 18446744073709551616 ∧ (-9223372036854775808 ≤ n ∧ n ≤ 9223372036854775807) := by
  obtain ⟨cs, rfl, hcsz⟩ := okWide_struct Try.underlying29 hval
  obtain ⟨t, ⟨q0, b0⟩, ⟨q1, b1⟩, ⟨q2, b2⟩, ⟨q3, b3⟩, ⟨q4, b4⟩, ⟨q5, b5⟩, ⟨q6, b6⟩, _⟩ := Rd.open_arg oReq hd hsz hts hds
  obtain ⟨l⟩ := cs
  match l, hcsz.trans co29 with
  | [c0, c1, c2, c3, c4, c5, c6], _ =>
    replace q0 : some c0 = some (.string t.1) := q0
    replace q1 : some c1 = some (.string t.2.1) := q1
    replace q2 : some c2 = some (.string t.2.2.1) := q2
    replace q3 : some c3 = some (.float .f64 t.2.2.2.1) := q3
    replace q4 : some c4 = some (.int .i64 t.2.2.2.2.1) := q4
    replace q5 : some c5 = some (.int .u64 t.2.2.2.2.2.1) := q5
    replace q6 : some c6 = some (.int .u64 t.2.2.2.2.2.2.1) := q6
    cases q0; cases q1; cases q2; cases q3; cases q4; cases q5; cases q6
    exact ⟨_, _, _, _, _, _, _, rfl, b0, b1, b2, b3, b4⟩
theorem co43 : Try.prog.cellsOf 43 = 1 := by kernel_rfl
theorem open_healthy (hval : Value.okWide Try.prog W .any base 43 v) (hd : DataW.Trod enc Try.prog W 0 (fun _ => true) true 43 v d pl) (hsz : (DataW.weightsEach Try.prog ts ds).all (· ≤ reachBytes) = true) (hts : ts[j]? = some 43) (hds : ds[j]? = some d) :
    ∃ hs : List Go.Dec.Healthy, Rd.SliceOf healthyE W v hs := by
  obtain ⟨a0, l0, c0, rfl⟩ := okWide_slice Try.underlying43 hval
  obtain ⟨hs, v', q, r⟩ := Rd.open_arg (Rd.opens_slice Try.underlying43 co50 (show Try.prog.bytesOf 50 = 40 by kernel_rfl) (by decide) (by decide) oHealthy) hd hsz hts hds
  replace q : some (Value.slice a0 l0 c0) = some v' := q
  cases q
  exact ⟨hs, r⟩
end
end Go.Proofs.Ytnnoccojjeadhaa
