/- The law PoolYoungest in plain words: what its calls make of the pool. -/
import Derived.Test.YtpebcamnmeppaaaPl
namespace Go.Po
open Go.RowKit
set_option linter.unusedVariables false
def mk (a : ByteArray) (l : List Int) : List C := l.map fun x => ⟨x, a, 0⟩
def mf (a : ByteArray) (now : Int) : Nat → List Int → List C
  | _, [] => []
  | j, x :: l => ⟨x, a, now + j⟩ :: mf a now (j + 1) l
theorem mf_append (a : ByteArray) (now : Int) : ∀ (j : Nat) (l r : List Int), mf a now j (l ++ r) = mf a now j l ++ mf a now (j + l.length) r
  | j, [], r => by simp [mf]
  | j, x :: l, r => by
    simp only [List.cons_append, mf, mf_append a now (j + 1) l r, List.length_cons]
    rw [show j + 1 + l.length = j + (l.length + 1) by omega]
theorem mf_ids (a : ByteArray) (now : Int) : ∀ (j : Nat) (l : List Int), (mf a now j l).map C.id = l
  | _, [] => rfl
  | j, x :: l => by simp only [mf, List.map_cons, mf_ids a now (j + 1) l]
theorem mk_ids (a : ByteArray) (l : List Int) : (mk a l).map C.id = l := by simp [mk, Function.comp_def]
theorem mk_ep {a : ByteArray} {l : List Int} {c : C} (h : c ∈ mk a l) : c.ep = a := by
  obtain ⟨x, _, rfl⟩ := List.mem_map.1 h; rfl
theorem mf_ep {a : ByteArray} {now : Int} : ∀ {j : Nat} {l : List Int} {c : C}, c ∈ mf a now j l → c.ep = a
  | _, [], c, h => by cases h
  | j, x :: l, c, h => by
    rcases List.mem_cons.1 h with rfl | h
    · rfl
    · exact mf_ep h
theorem of_mk (a : ByteArray) (l : List Int) : of (mk a l) a = l.length := by
  have : of (mk a l) a = (mk a l).length := List.countP_eq_length.2 (fun c hc => by simpa using mk_ep hc)
  rw [this]; simp [mk]
theorem id_mem {l : List C} {i : Int} : i ∈ l.map C.id ↔ ∃ c ∈ l, c.id = i := List.mem_map
theorem y_take (wait : Int) (a : ByteArray) (l : List Int) (h : l.length < 64) : take ⟨64, wait, mk a l, [], []⟩ a = ((-1, true, 0), ⟨64, wait, mk a l, [], [a]⟩) := by
  have h1 : lastOf [] a = none := rfl
  simp only [take, h1, of_mk, kof, List.countP_nil]
  rw [if_neg (by omega)]
  rfl
theorem y_dial (wait : Int) (a : ByteArray) (l : List Int) (x : Int) (h0 : 0 ≤ x) (hx : x ∉ l) : dial ⟨64, wait, mk a l, [], [a]⟩ a x = (0, ⟨64, wait, mk a (l ++ [x]), [], []⟩) := by
  have h1 : kof [a] a = 1 := by rw [kof_one, if_pos rfl]
  have h2 : ¬ hasId ⟨64, wait, mk a l, [], [a]⟩ x := by
    rintro ⟨c, hc, he⟩
    simp only [St.all, List.append_nil] at hc
    have : x ∈ (mk a l).map C.id := id_mem.2 ⟨c, hc, he⟩
    rw [mk_ids] at this
    exact hx this
  have h3 : unk a [a] = [] := by simp [unk]
  unfold dial
  rw [if_neg (by simp only [not_or]; exact ⟨by rw [h1]; decide, by omega, h2⟩)]
  simp [h3, mk]
theorem but_ids {l : List C} {i : Int} (h : i ∉ l.map C.id) : but i l = l := but_none (fun c hc he => h (id_mem.2 ⟨c, hc, he⟩))
theorem y_put (wait now : Int) (a : ByteArray) (l r : List Int) (x : Int) (hx : x ∉ r) : put ⟨64, wait, mk a (x :: r), mf a now 0 l, []⟩ x (now + l.length) = (0, ⟨64, wait, mk a r, mf a now 0 (l ++ [x]), []⟩) := by
  have h1 : fnd (mk a (x :: r)) x = some ⟨x, a, 0⟩ := by simp [fnd, mk]
  have h2 : but x (mk a (x :: r)) = mk a r := by
    have e1 : but x (mk a (x :: r)) = but x (mk a r) := by rw [but, mk, List.map_cons, List.filter_cons_of_neg (by simp)]; rfl
    rw [e1]
    exact but_ids (by rw [mk_ids]; exact hx)
  simp only [put, h1, h2, mf_append, mf, Nat.zero_add]
theorem y_old (wait now : Int) (a : ByteArray) (b f : List C) (q j : Nat) (x : Int) (hw : 0 ≤ wait ∧ wait ≤ 1099511627776) (hn : 0 ≤ now ∧ now ≤ 1099511627776) (hq : q ≤ 64) (hj : j ≤ 64) (i : Int) : old ⟨64, wait, b, f, []⟩ (now + q - 1 + wait) ⟨i, a, now + j⟩ = decide (j < q) := by
  have hwr : wrap64 (now + q - 1 + wait - (now + j)) = now + q - 1 + wait - (now + j) := by unfold wrap64; omega
  simp only [old, hwr]
  by_cases h : j < q
  · have h1 : now + (j : Int) ≤ now + q - 1 + wait := by omega
    have h2 : wait ≤ now + q - 1 + wait - (now + j) := by omega
    simp [h, h1, h2]
  · have h2 : ¬ wait ≤ now + q - 1 + wait - (now + j) := by omega
    simp [h, h2]
theorem y_old_low (wait now : Int) (a : ByteArray) (b f : List C) (q : Nat) (hw : 0 ≤ wait ∧ wait ≤ 1099511627776) (hn : 0 ≤ now ∧ now ≤ 1099511627776) (hq : q ≤ 64) : ∀ (j : Nat) (l : List Int), j + l.length ≤ q → ∀ c ∈ mf a now j l, old ⟨64, wait, b, f, []⟩ (now + q - 1 + wait) c = true
  | _, [], _, c, hc => by cases hc
  | j, x :: l, h, c, hc => by
    rw [List.length_cons] at h
    rcases List.mem_cons.1 hc with rfl | hc
    · rw [y_old wait now a b f q j x hw hn hq (by omega)]
      exact decide_eq_true (by omega)
    · exact y_old_low wait now a b f q hw hn hq (j + 1) l (by omega) c hc
theorem y_old_high (wait now : Int) (a : ByteArray) (b f : List C) (q : Nat) (hw : 0 ≤ wait ∧ wait ≤ 1099511627776) (hn : 0 ≤ now ∧ now ≤ 1099511627776) (hq : q ≤ 64) : ∀ (j : Nat) (l : List Int), q ≤ j → j + l.length ≤ 64 → ∀ c ∈ mf a now j l, old ⟨64, wait, b, f, []⟩ (now + q - 1 + wait) c = false
  | _, [], _, _, c, hc => by cases hc
  | j, x :: l, h, h2, c, hc => by
    rw [List.length_cons] at h2
    rcases List.mem_cons.1 hc with rfl | hc
    · rw [y_old wait now a b f q j x hw hn hq (by omega)]
      exact decide_eq_false (by omega)
    · exact y_old_high wait now a b f q hw hn hq (j + 1) l (by omega) (by omega) c hc
theorem y_expire (wait now : Int) (a : ByteArray) (l r : List Int) (hw : 0 ≤ wait ∧ wait ≤ 1099511627776) (hn : 0 ≤ now ∧ now ≤ 1099511627776) (hl : l.length + r.length ≤ 64) :
    expire ⟨64, wait, [], mf a now 0 (l ++ r), []⟩ (now + l.length - 1 + wait) = (l.mergeSort fun x y => decide (x ≤ y), ⟨64, wait, [], mf a now l.length r, []⟩) := by
  have e0 := mf_append a now 0 l r
  rw [Nat.zero_add] at e0
  have h1 := y_old_low wait now a [] (mf a now 0 (l ++ r)) l.length hw hn (by omega) 0 l (by omega)
  have h2 := y_old_high wait now a [] (mf a now 0 (l ++ r)) l.length hw hn (by omega) l.length r (Nat.le_refl _) hl
  have f1 : (mf a now 0 (l ++ r)).filter (old ⟨64, wait, [], mf a now 0 (l ++ r), []⟩ (now + l.length - 1 + wait)) = mf a now 0 l := by
    generalize old ⟨64, wait, [], mf a now 0 (l ++ r), []⟩ (now + l.length - 1 + wait) = q at h1 h2
    rw [e0, List.filter_append, List.filter_eq_self.2 h1, List.filter_eq_nil_iff.2 (fun c hc => by rw [h2 c hc]; simp), List.append_nil]
  have f2 : ((mf a now 0 (l ++ r)).filter fun c => !old ⟨64, wait, [], mf a now 0 (l ++ r), []⟩ (now + l.length - 1 + wait) c) = mf a now l.length r := by
    generalize old ⟨64, wait, [], mf a now 0 (l ++ r), []⟩ (now + l.length - 1 + wait) = q at h1 h2
    rw [e0, List.filter_append, List.filter_eq_nil_iff.2 (fun c hc => by rw [h1 c hc]; simp), List.filter_eq_self.2 (fun c hc => by rw [h2 c hc]; rfl), List.nil_append]
  simp only [expire]
  rw [f1, f2, mf_ids]
theorem y_last (wait now : Int) (a : ByteArray) (b : List C) (q : Nat) (r : List Int) (x : Int) (hx : x ∉ r) :
    take ⟨64, wait, b, mf a now q (r ++ [x]), []⟩ a = ((x, false, 0), ⟨64, wait, b ++ [⟨x, a, now + (q + r.length : Nat)⟩], mf a now q r, []⟩) := by
  have h1 : lastOf (mf a now q (r ++ [x])) a = some ⟨x, a, now + (q + r.length : Nat)⟩ := by
    rw [lastOf, List.filter_eq_self.2 (fun c hc => by simpa using mf_ep hc), mf_append]
    simp [mf]
  have h2 : but x (mf a now q (r ++ [x])) = mf a now q r := by
    rw [mf_append]
    have e1 : but x (mf a now q r ++ mf a now (q + r.length) [x]) = but x (mf a now q r) ++ but x (mf a now (q + r.length) [x]) := List.filter_append _ _
    rw [e1, but_ids (by rw [mf_ids]; exact hx)]
    simp [mf, but]
  simp only [take, h1, h2]
end Go.Po
