/- D whole, in plain words: what happens to a request; the walk of the search of a service among the healthy ones. -/
import Derived.Test.YtnnoccojjeadhaaShare
namespace Go.Dec
open Go.Pa
set_option linter.unusedVariables false
def isSvc (s : ByteArray) (h : Healthy) : Bool := h.1.data.toList == s.data.toList
/-- What is decided: kind, status, route, rule, service, endpoint. -/
structure Dc where
  kind : Int
  status : Int
  route : ByteArray
  rule : Int
  svc : ByteArray
  ep : ByteArray
deriving DecidableEq
def Dc.v (d : Dc) : Value := .agg #[.int .i64 d.kind, .int .i64 d.status, .string d.route, .int .i64 d.rule, .string d.svc, .string d.ep]
def nil : ByteArray := ⟨#[]⟩
/-- The endpoints that are asked. -/
def allOf (hl : List Healthy) (s : ByteArray) : List ByteArray := match hl[(firstI (isSvc s) hl).toNat]? with
  | some x => if firstI (isSvc s) hl < 0 then [] else x.2.1
  | none => []
/-- The end of D, of a rule's shares. -/
def lastOf (hl : List Healthy) (route : ByteArray) (i : Int) (ss : List Share) (u : Nat) (n : Int) : Dc :=
  let all := if ss = [] then [] else allOf hl (shareOf u ss)
  match all[(max n 0 % (all.length : Int)).toNat]? with
  | some ep => ⟨1, 0, route, i, shareOf u ss, ep⟩
  | none => ⟨5, 503, route, i, shareOf u ss, nil⟩
def decOf (ts : List Host) (hl : List Healthy) (m h p : ByteArray) (u : Nat) (n : Int) : Dc :=
  match ts[(firstI (takesH h.data.toList) ts).toNat]? with
  | none => ⟨2, 404, nil, -1, nil, nil⟩
  | some r => if firstI (takesH h.data.toList) ts < 0 then ⟨2, 404, nil, -1, nil, nil⟩ else
    match r.2.2.1[(firstI (takesE m.data.toList p.data.toList) r.2.2.1).toNat]? with
    | none => ⟨3, 404, r.2.1, -1, nil, nil⟩
    | some e => if firstI (takesE m.data.toList p.data.toList) r.2.2.1 < 0 then ⟨3, 404, r.2.1, -1, nil, nil⟩ else
      if allowB (takesP m.data.toList p.data.toList) r.2.2.2.1 then lastOf hl r.2.1 (firstI (takesE m.data.toList p.data.toList) r.2.2.1) e.2.2.1 u n else ⟨4, 403, r.2.1, firstI (takesE m.data.toList p.data.toList) r.2.2.1, nil, nil⟩
section
variable {ts : List Host} {hl : List Healthy} {m h p : ByteArray} {u : Nat} {n : Int}
theorem dec_nohost (h1 : firstI (takesH h.data.toList) ts = -1) : decOf ts hl m h p u n = ⟨2, 404, nil, -1, nil, nil⟩ := by
  unfold decOf
  rw [h1]
  split
  · rfl
  · rfl
theorem dec_norule {k : Nat} {r : Host} (h1 : firstI (takesH h.data.toList) ts = k) (hk : ts[k]? = some r) (h2 : firstI (takesE m.data.toList p.data.toList) r.2.2.1 = -1) : decOf ts hl m h p u n = ⟨3, 404, r.2.1, -1, nil, nil⟩ := by
  unfold decOf
  rw [h1, Int.toNat_natCast, hk]
  dsimp only
  rw [if_neg (by omega), h2]
  split
  · rfl
  · rfl
theorem dec_denied {k i : Nat} {r : Host} {e : Entry} (h1 : firstI (takesH h.data.toList) ts = k) (hk : ts[k]? = some r) (h2 : firstI (takesE m.data.toList p.data.toList) r.2.2.1 = i) (hi : r.2.2.1[i]? = some e) (h3 : allowB (takesP m.data.toList p.data.toList) r.2.2.2.1 = false) : decOf ts hl m h p u n = ⟨4, 403, r.2.1, i, nil, nil⟩ := by
  unfold decOf
  rw [h1, Int.toNat_natCast, hk]
  dsimp only
  rw [if_neg (by omega), h2, Int.toNat_natCast, hi]
  dsimp only
  rw [if_neg (by omega), h3]
  rfl
theorem dec_last {k i : Nat} {r : Host} {e : Entry} (h1 : firstI (takesH h.data.toList) ts = k) (hk : ts[k]? = some r) (h2 : firstI (takesE m.data.toList p.data.toList) r.2.2.1 = i) (hi : r.2.2.1[i]? = some e) (h3 : allowB (takesP m.data.toList p.data.toList) r.2.2.2.1 = true) : decOf ts hl m h p u n = lastOf hl r.2.1 i e.2.2.1 u n := by
  unfold decOf
  rw [h1, Int.toNat_natCast, hk]
  dsimp only
  rw [if_neg (by omega), h2, Int.toNat_natCast, hi]
  dsimp only
  rw [if_neg (by omega), h3]
  rfl
end
section
variable {hl : List Healthy} {route : ByteArray} {i : Int} {ss : List Share} {u : Nat} {n : Int}
theorem last_none (h : allOf hl (shareOf u ss) = [] ∨ ss = []) : lastOf hl route i ss u n = ⟨5, 503, route, i, shareOf u ss, nil⟩ := by
  unfold lastOf
  have e : (if ss = [] then [] else allOf hl (shareOf u ss)) = [] := by
    rcases h with h | h
    · rw [h]; split <;> rfl
    · rw [if_pos h]
  rw [e]
  rfl
theorem last_at {j : Nat} {ep : ByteArray} (h : ss ≠ []) (hj : ((j : Nat) : Int) = max n 0 % ((allOf hl (shareOf u ss)).length : Int)) (he : (allOf hl (shareOf u ss))[j]? = some ep) : lastOf hl route i ss u n = ⟨1, 0, route, i, shareOf u ss, ep⟩ := by
  unfold lastOf
  rw [if_neg h]
  dsimp only
  rw [← hj, Int.toNat_natCast, he]
theorem all_none {s : ByteArray} (h : firstI (isSvc s) hl = -1) : allOf hl s = [] := by
  unfold allOf
  rw [h]
  split
  · rfl
  · rfl
theorem all_at {s : ByteArray} {k : Nat} {x : Healthy} (h : firstI (isSvc s) hl = k) (hk : hl[k]? = some x) : allOf hl s = x.2.1 := by
  unfold allOf
  rw [h, Int.toNat_natCast, hk]
  dsimp only
  rw [if_neg (by omega)]
end
end Go.Dec
namespace Go.Proofs.Ytnnoccojjeadhaa
open Go.ChangeShapes Go.WideShapes Go.ChangeAt Go.RowKit
open Go.Pa Go.Dec
set_option linter.unusedVariables false

theorem test28 (a s : ByteArray) (v2 : Value) (bn : Nat) (w : World) (hc : w.cell? ⟨bn, 4, none⟩ = some (.string s)) (hb : bn < w.heap.size) :
    Calls Try.prog 28 #[.agg #[.string a, v2], .pointer (some ⟨bn, 0, none⟩)] w fun e w' => e = .returned (.bool (a.data.toList == s.data.toList)) ∧ Below w.heap.size w w' := by
  have hc2 : (w.alloc (.cells #[.string a, v2] 50)).cell? ⟨bn, 4, none⟩ = some (.string s) := ((Tp.Below_alloc w _).cell (by exact hb)).trans hc
  have e2 := eq_lists a s
  generalize (a.data.toList == s.data.toList) = t at *
  have hbb := Lib.hid (Tp.Below_alloc w (.cells #[.string a, v2] 50))
  go_enter Try.func28, Try.ntmps28
  go_wp2
  go_ret
  exact ⟨rfl, hbb.out⟩

set_option maxHeartbeats 2000000 in
theorem idx27 (xs : List Healthy) (name : ByteArray) (bn : Nat) (v : Value) (w : World) (hcn : w.cell? ⟨bn, 4, none⟩ = some (.string name)) (hbn : bn < w.heap.size) (hrd : Rd.SliceOf healthyE w v xs) :
    Calls Try.prog 27 #[v, .func (.func 28) #[] #[.pointer (some ⟨bn, 0, none⟩)]] w fun e w' => e = .returned (.int .i64 (firstI (isSvc name) xs)) ∧ Below w.heap.size w w' := by
  have hlen := hrd.1
  obtain ⟨ao, cap, hv⟩ : ∃ ao cap, v = .slice ao xs.length cap := by obtain ⟨_, ao, cap, rfl, _⟩ := hrd; exact ⟨_, _, rfl⟩
  subst hv
  replace hrd := Lib.hid hrd
  go_enter Try.func27, Try.ntmps27
  go_wp2
  go_loopg [8] xs.length (fun g ic wr => ∃ i : Nat, i ≤ xs.length ∧ g = xs.length - i ∧ ic = .int .i64 i ∧ (∀ (j : Nat) y, j < i → xs[j]? = some y → (isSvc name) y = false) ∧ Below w.heap.size w wr)
  case atStart => exact ⟨0, by omega, rfl, rfl, fun j y hj _ => by omega, Below.refl _ _⟩
  case round =>
    obtain ⟨i, hi, rfl, rfl, hno, hbel⟩ := hrel
    by_cases hlt : i < xs.length
    · obtain ⟨b, off, cap', hv, hbw, hx⟩ := hrd.out.at (by rintro rfl; simp at hlt)
      cases hv
      have hxi := List.getElem?_eq_getElem hlt
      have hr := Rd.Elem.up healthyE (hx i _ hxi) hbel (fun j _ => hbel.cell (by exact hbw))
      generalize xs[i] = x at *
      obtain ⟨⟨q0, s0⟩, ⟨v2, q2, r2⟩, _⟩ := hr
      have c0 : wr.cell? ⟨b, off + i * 2, none⟩ = some (.string x.1) := q0
      have c1 : wr.cell? ⟨b, off + i * 2 + 1, none⟩ = some v2 := q2
      have hi1 : (i : Int) < (xs.length : Int) := by omega
      have hcall := test28 x.1 name v2 bn wr ((hbel.cell (by exact hbn)).trans hcn) (Nat.lt_of_lt_of_le hbn hbel.size)
      have hyes := fun h => first_at (p := isSvc name) (l := xs) (k := i) (x := x) hno hxi h
      have hnot : (isSvc name) x = false → ∀ (j : Nat) y, j < i + 1 → xs[j]? = some y → (isSvc name) y = false := fun h j y hj hy => by
        rcases Nat.lt_or_ge j i with h1 | h1
        · exact hno j y h1 hy
        · obtain rfl : j = i := by omega
          rw [hxi] at hy; cases hy; exact h
      have hpx : (isSvc name) x = (x.1.data.toList == name.data.toList) := rfl
      rw [hpx] at hyes hnot
      generalize (x.1.data.toList == name.data.toList) = t at *
      replace hcall := Lib.hid hcall
      replace hyes := Lib.hid hyes
      replace hnot := Lib.hid hnot
      replace hbel := Lib.hid hbel
      clear hno hxi hpx hx
      go_wp2_with fail
      refine hcall.out.mono ?_
      rintro e w1 ⟨rfl, hb1⟩
      have hbel2 := Lib.hid (Tp.Below_seq hbel.out hb1)
      clear hb1
      cases t with
      | true =>
        have hres := Lib.hid (hyes.out rfl)
        go_wp2
        go_ret
        exact ⟨by rw [hres.out]; rfl, hbel2.out⟩
      | false =>
        have hn := Lib.hid (hnot.out rfl)
        go_wp2
        go_roundg (xs.length - (i + 1))
        case measure => omega
        case rel => exact ⟨i + 1, by omega, rfl, by go_num, hn.out, hbel2.out⟩
    · have hres := Lib.hid (first_none (p := isSvc name) (l := xs) fun j y hy => hno j y (by have := (List.getElem?_eq_some_iff.1 hy).1; omega) hy)
      have hi1 : (xs.length : Int) ≤ (i : Int) := by omega
      replace hbel := Lib.hid hbel
      clear hno
      go_wp2
      go_ret
      exact ⟨by rw [hres.out]; rfl, hbel.out⟩

end Go.Proofs.Ytnnoccojjeadhaa
