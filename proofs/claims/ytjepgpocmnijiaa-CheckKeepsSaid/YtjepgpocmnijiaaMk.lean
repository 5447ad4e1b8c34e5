/- What a merged configuration has, in plain words. -/
import Derived.Test.YtjepgpocmnijiaaMg
namespace Go.Ck
set_option linter.unusedVariables false
open Go.Proofs.Ytjepgpocmnijiaa (Key)
theorem mge_err {C D L : List Res} {i f : Int} (h : MgE C D L i f) (hf : f ≠ 0) : L = [] ∧ 0 ≤ i ∧ (i < D.length ∨ i = 0) := by
  have lt : ∀ {m : Nat} {d : Res}, D[m]? = some d → (m : Int) < D.length := fun h => by have := (List.getElem?_eq_some_iff.1 h).1; omega
  cases h with
  | out _ => exact ⟨rfl, by omega, .inr rfl⟩
  | kind _ _ d _ => exact ⟨rfl, by omega, .inl (lt d)⟩
  | twice _ _ d _ _ => exact ⟨rfl, by omega, .inl (lt d)⟩
  | del _ _ d _ _ _ _ => exact ⟨rfl, by omega, .inl (lt d)⟩
  | count _ _ _ => exact ⟨rfl, by omega, .inr rfl⟩
  | fine _ _ _ => exact absurd rfl hf
theorem mge_ok {C D L : List Res} {i f : Int} (h : MgE C D L i f) (hf : f = 0) : outI C < 0 ∧ MgS C D D.length L ∧ L.length ≤ 64 ∧ i = 0 := by
  cases h with
  | out _ => cases hf
  | kind _ _ _ _ => cases hf
  | twice _ _ _ _ _ => cases hf
  | del _ _ _ _ _ _ _ => cases hf
  | count _ _ _ => cases hf
  | fine a b c => exact ⟨a, b, c, rfl⟩
theorem fold_succ {C D : List Res} {m : Nat} {d : Res} (hd : D[m]? = some d) : (D.take (m + 1)).foldl setD C = setD ((D.take m).foldl setD C) d := by
  rw [List.take_add_one, hd, List.foldl_append]; rfl
theorem mgs_doc {C D a : List Res} {n : Nat} (h : MgS C D n a) {j : Nat} {d : Res} (hj : j < n) (hd : D[j]? = some d) : fnd a (rk d) = if d.del = true then none else some d := by
  have key : ∀ m, j < m → m ≤ n → fnd ((D.take m).foldl setD C) (rk d) = if d.del = true then none else some d := by
    intro m
    induction m with
    | zero => intro h; omega
    | succ m ih =>
      intro h1 h2
      have hl := h.le
      have hx : D[m]? = some D[m] := List.getElem?_eq_getElem (by omega)
      rw [fold_succ hx, setD_fnd]
      by_cases e : m = j
      · subst e
        rw [hd] at hx
        rw [← Option.some.inj hx, if_pos rfl]
      · have hjm : j < m := by omega
        have h3 := (h.ok m _ (by omega) hx).2
        have hjt : (D.take m)[j]? = some d := by rw [List.getElem?_take_of_lt hjm]; exact hd
        rw [if_neg (fun q => fnd_none.1 h3 d (List.mem_of_getElem? hjt) q.symm)]
        exact ih hjm (by omega)
  rw [h.from0]
  exact key n hj (Nat.le_refl _)
theorem mgs_conf {C D a : List Res} {n : Nat} (h : MgS C D n a) {k : Key} (hk : ∀ (j : Nat) d, j < n → D[j]? = some d → rk d ≠ k) : fnd a k = fnd C k := by
  have key : ∀ m, m ≤ n → fnd ((D.take m).foldl setD C) k = fnd C k := by
    intro m
    induction m with
    | zero => intro _; rw [List.take_zero]; rfl
    | succ m ih =>
      intro h2
      have hl := h.le
      have hx : D[m]? = some D[m] := List.getElem?_eq_getElem (by omega)
      rw [fold_succ hx, setD_fnd, if_neg (hk m _ (by omega) hx)]
      exact ih (by omega)
  rw [h.from0]
  exact key n (Nat.le_refl _)
theorem setD_mem {a : List Res} {d r : Res} (h : r ∈ setD a d) : r ∈ a ∨ (r = d ∧ d.del = false) := by
  unfold setD at h
  split at h
  · exact .inl (List.mem_filter.1 h).1
  · rename_i hd
    rcases putL_mem h with rfl | h
    · exact .inr ⟨rfl, by simpa using hd⟩
    · exact .inl (List.mem_filter.1 h).1
theorem mgs_kind {C D a : List Res} {n : Nat} (h : MgS C D n a) (hC : Ord C) : ∀ r ∈ a, 1 ≤ r.kind ∧ r.kind ≤ 4 ∧ r.del = false := by
  have key : ∀ m, m ≤ n → ∀ r ∈ (D.take m).foldl setD C, 1 ≤ r.kind ∧ r.kind ≤ 4 ∧ r.del = false := by
    intro m
    induction m with
    | zero => intro _ r hr; rw [List.take_zero] at hr; exact hC.kind r hr
    | succ m ih =>
      intro h2 r hr
      have hl := h.le
      have hx : D[m]? = some D[m] := List.getElem?_eq_getElem (by omega)
      rw [fold_succ hx] at hr
      rcases setD_mem hr with hr | ⟨rfl, hd⟩
      · exact ih (by omega) r hr
      · have h3 := (h.ok m _ (by omega) hx).1
        unfold badKind at h3
        simp only [Bool.or_eq_false_iff, decide_eq_false_iff_not] at h3
        exact ⟨by omega, by omega, hd⟩
  rw [h.from0]
  exact key n (Nat.le_refl _)
theorem out_of {l : List Res} (hk : ∀ r ∈ l, 1 ≤ r.kind ∧ r.kind ≤ 4 ∧ r.del = false) (hs : Srt l) : outI l < 0 := by
  have : outI l = -1 := by
    unfold outI
    refine firstN_none fun j hj => ?_
    have hx : l[j]? = some l[j] := List.getElem?_eq_getElem hj
    rw [badIx_at hx]
    obtain ⟨k1, k2, k3⟩ := hk _ (List.mem_of_getElem? hx)
    unfold badAt
    rw [decide_eq_false (by omega), decide_eq_false (by omega), k3]
    cases j with
    | zero => rfl
    | succ j =>
      have hy : l[j]? = some l[j] := List.getElem?_eq_getElem (by omega)
      rw [Nat.add_sub_cancel, hy]
      have h1 := List.pairwise_iff_getElem.1 hs j (j + 1) (by omega) hj (Nat.lt_succ_self j)
      simp only [Nat.zero_lt_succ, decide_true, Bool.true_and, Bool.false_or]
      rw [less_eq, h1]; rfl
  rw [this]; omega
theorem ord_of_mgs {C D a : List Res} {n : Nat} (h : MgS C D n a) (hC : outI C < 0) : outI a < 0 := out_of (mgs_kind h (ord_of hC)) h.srt
/-- In a list in order a key's resource is the one that is found. -/
theorem srt_at {l : List Res} (h : Srt l) {i : Nat} {x : Res} (hx : l[i]? = some x) {k : Key} (hk : rk x = k) : fnd l k = some x := by
  rw [← hk]; exact h.fnd_mem (List.mem_of_getElem? hx)
def hasK (l : List Res) (n : Nat) (k : Key) : Bool := (fnd (l.take n) k).isSome
theorem hasK_zero (l : List Res) (k : Key) : hasK l 0 k = false := by unfold hasK; rw [List.take_zero]; rfl
theorem hasK_succ {l : List Res} {n : Nat} {x : Res} (hx : l[n]? = some x) (k : Key) : hasK l (n + 1) k = (hasK l n k || decide (rk x = k)) := by
  unfold hasK
  rw [fnd_take_succ hx]
  by_cases e : rk x = k
  · rw [if_pos e]; cases fnd (l.take n) k <;> simp [e]
  · rw [if_neg e]; cases fnd (l.take n) k <;> simp [e]
def hasS (l : List Res) (n : Nat) (c : Res) : Bool := (l.take n).any fun x => sameR x c
theorem hasS_zero (l : List Res) (c : Res) : hasS l 0 c = false := by unfold hasS; rw [List.take_zero]; rfl
theorem hasS_succ {l : List Res} {n : Nat} {x : Res} (hx : l[n]? = some x) (c : Res) : hasS l (n + 1) c = (hasS l n c || sameR x c) := by
  unfold hasS
  rw [List.take_add_one, hx, List.any_append]; simp
end Go.Ck
