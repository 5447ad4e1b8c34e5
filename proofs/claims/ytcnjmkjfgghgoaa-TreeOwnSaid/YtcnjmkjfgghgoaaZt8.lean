/- document's deferred closure: it hands the fault back. -/
import Derived.Test.YtcnjmkjfgghgoaaZt6
import Derived.Test.YtcnjmkjfgghgoaaZt7
import Derived.Test.YtcnjmkjfgghgoaaZt3
import Derived.Test.YtcnjmkjfgghgoaaZt4
import Derived.Test.YtcnjmkjfgghgoaaZt1
import Derived.Defers
import Derived.Recover
section
/- May: walked. -/
namespace Go.Proofs.Ytcnjmkjfgghgoaa
open Go.RowKit Go.Mp Go.Tr
set_option linter.unusedVariables false
set_option maxRecDepth 100000
set_option maxHeartbeats 4000000
theorem may_any (ns : List Nd) (v : Value) (w : World) (hN : NdV w v ns) : Calls Try.prog 21 #[v] w fun e w' => e = .returned (.bool (mayR ns)) ∧ Below w.heap.size w w' := by
  have hC : Calls Try.prog 39 #[v, .int .i64 0, .int .i64 1] w fun e w' => e = .returned (.int .i64 (overR ns 16 0)) ∧ Below w.heap.size w w' := overN_any ns v 16 1 rfl w 0 hN
  obtain ⟨ao, cap, rfl⟩ := hN.shape
  have hB := Lib.hid (Below.refl w.heap.size w)
  obtain ⟨b, hb⟩ : ∃ b, b = mayR ns := ⟨_, rfl⟩
  rw [← hb]
  unfold mayR at hb
  obtain ⟨E, hE⟩ : ∃ E, E = overR ns 16 0 := ⟨_, rfl⟩
  rw [← hE] at hC hb
  by_cases h0 : ns = []
  · subst h0
    have hf : b = false := by rw [hb]; rfl
    subst hf
    replace hN := Lib.hid hN
    replace hC := Lib.hid hC
    replace hb := Lib.hid hb
    replace hE := Lib.hid hE
    go_enter Try.func21, Try.ntmps21
    go_wp2
    go_ret
    exact ⟨rfl, hB.out⟩
  · have h1 : 0 < ns.length := List.length_pos_iff.2 h0
    obtain ⟨n, hn⟩ : ∃ n, ns[0]? = some n := ⟨_, List.getElem?_eq_getElem h1⟩
    obtain ⟨g, off, kv, rfl, hg, c0, c1, _, _, _, _, _⟩ := hN.at hn
    rw [hn] at hb
    dsimp only at hb
    have k1 : (0 : Int) < (ns.length : Int) := by omega
    have k1' : decide ((0 : Int) < (ns.length : Int)) = true := decide_eq_true k1
    have k1n : decide (0 < ns.length) = true := decide_eq_true h1
    rw [k1n] at hb
    by_cases h2 : ns.length ≤ 4096
    · have k2 : (ns.length : Int) ≤ 4096 := by omega
      have k2n : decide (ns.length ≤ 4096) = true := decide_eq_true h2
      rw [k2n] at hb
      simp only [Nat.zero_mul, Nat.add_zero] at c0 c1
      cases hk : (n.key.toList == []) with
      | false =>
        have hf : b = false := by
          rw [hb]
          have : n.key.toList.isEmpty = false := by
            cases h : n.key.toList with
            | nil => rw [h] at hk; cases hk
            | cons a l => rfl
          rw [this]; simp
        subst hf
        replace hN := Lib.hid hN
        replace hC := Lib.hid hC
        replace hb := Lib.hid hb
        replace hE := Lib.hid hE
        replace hn := Lib.hid hn
        go_enter Try.func21, Try.ntmps21
        go_wp2
        go_ret
        exact ⟨rfl, hB.out⟩
      | true =>
        have hb2 : b = decide (E = (ns.length : Int)) := by
          rw [hb]
          have : n.key.toList.isEmpty = true := by rw [eq_of_beq hk]; rfl
          rw [this]; simp
        clear hb
        obtain ⟨x, hx⟩ : ∃ x, x = (E == (ns.length : Int)) := ⟨_, rfl⟩
        have hbx : b = x := by rw [hb2, hx]; rfl
        subst hbx
        replace hN := Lib.hid hN
        replace hC := Lib.hid hC
        replace hE := Lib.hid hE
        replace hn := Lib.hid hn
        replace hb2 := Lib.hid hb2
        replace hx := Lib.hid hx
        go_enter Try.func21, Try.ntmps21
        go_wp2_with (first
          | (go_at_call 39; (with_reducible refine hC.out.mono ?_); rintro ev wy ⟨rfl, hy⟩; replace hy := Lib.hid hy)
          | fail)
        go_ret
        exact ⟨by rw [hx.out]; rfl, hy.out⟩
    · have k2' : decide ((ns.length : Int) ≤ 4096) = false := decide_eq_false (by omega)
      have k2n : decide (ns.length ≤ 4096) = false := decide_eq_false h2
      have hf : b = false := by rw [hb, k2n]; rfl
      subst hf
      replace hN := Lib.hid hN
      replace hC := Lib.hid hC
      replace hb := Lib.hid hb
      replace hE := Lib.hid hE
      replace hn := Lib.hid hn
      replace h2 := Lib.hid h2
      go_enter Try.func21, Try.ntmps21
      go_wp2
      go_ret
      exact ⟨rfl, hB.out⟩
end Go.Proofs.Ytcnjmkjfgghgoaa
end

section
/- deep, Depth, Get: walked. -/
namespace Go.Tr
open Go.RowKit
mutual
def high : T → Nat
  | .node _ _ _ _ _ ks => highs ks + 1
def highs : List T → Nat
  | [] => 0
  | c :: cs => max (high c) (highs cs)
end
theorem highs_snoc (ts : List T) (c : T) : highs (ts ++ [c]) = max (highs ts) (high c) := by
  induction ts with
  | nil => simp [highs]
  | cons t ts ih => simp only [List.cons_append, highs, ih]; omega
mutual
theorem high_size : ∀ t : T, high t ≤ t.size
  | .node _ _ _ _ _ ks => by have := highs_size ks; simp only [high, T.size]; omega
theorem highs_size : ∀ ts : List T, highs ts ≤ sizes ts
  | [] => Nat.le_refl _
  | t :: ts => by have h1 := high_size t; have h2 := highs_size ts; simp only [highs, sizes]; omega
end
theorem kidAts_at {b : Nat} {ks : List T} {r : Nat} {c : T} (h : ks[r]? = some c) : (kidAts b ks)[r]? = some ((b + sizes (ks.take r) : Nat) : Int) := by
  induction ks generalizing b r with
  | nil => cases h
  | cons k ks ih =>
    cases r with
    | zero => simp [kidAts, sizes]
    | succ r =>
      simp only [List.getElem?_cons_succ] at h
      simp only [kidAts, List.getElem?_cons_succ, List.take_succ_cons, sizes]
      rw [ih h]
      congr 2
      omega
theorem lays_at {b : Nat} {ks : List T} {r : Nat} {c : T} {ns : List Nd} (h : ks[r]? = some c) (hp : lays b ks <+: ns.drop b) : lay (b + sizes (ks.take r)) c <+: ns.drop (b + sizes (ks.take r)) := by
  induction ks generalizing b r with
  | nil => cases h
  | cons k ks ih =>
    simp only [lays] at hp
    obtain ⟨h1, h2⟩ := drop_of_prefix hp
    rw [lay_length] at h2
    cases r with
    | zero =>
      simp only [List.getElem?_cons_zero, Option.some.injEq] at h
      subst h
      simpa [sizes] using h1
    | succ r =>
      simp only [List.getElem?_cons_succ] at h
      have := ih h h2
      simp only [List.take_succ_cons, sizes]
      rw [← Nat.add_assoc]
      exact this
theorem lay_fits {b : Nat} {t : T} {ns : List Nd} (h : lay b t <+: ns.drop b) : b + t.size ≤ ns.length := by
  have h1 := h.length_le
  rw [lay_length, List.length_drop] at h1
  have := size_pos t
  omega
def hit (ns : List Nd) (key : ByteArray) (k : Int) : Bool := decide (0 ≤ k) && decide (k < (ns.length : Int)) && (match ns[k.toNat]? with | some m => m.key.toList == key.toList | none => false)
def getR (ns : List Nd) (at' : Int) (key : ByteArray) : Option Int :=
  if at' < 0 ∨ (ns.length : Int) ≤ at' then none
  else match ns[at'.toNat]? with
  | none => none
  | some n => if n.kind = 2 then n.kids.find? (hit ns key) else none
end Go.Tr
namespace Go.Proofs.Ytcnjmkjfgghgoaa
open Go.RowKit Go.Mp Go.Tr
set_option linter.unusedVariables false
set_option maxRecDepth 100000
set_option maxHeartbeats 4000000
theorem nn_down2 {r m : Nat} (h : r < m) : m - (r + 1) + 1 < m - r + 1 := by omega
theorem deep_any (ns : List Nd) (v : Value) : ∀ (f b : Nat) (t : T) (w : World), okT f t → lay b t <+: ns.drop b → NdV w v ns → Calls Try.prog 43 #[v, .int .i64 b] w fun e w' => e = .returned (.int .i64 (high t : Nat)) ∧ w' = w := by
  intro f
  induction f with
  | zero => intro b t w h; exact h.elim
  | succ f ih =>
    intro b t w hok hp hN
    have hfit := lay_fits hp
    have hbig := hN.1
    obtain ⟨k, key, tx, q, ln, ks⟩ := t
    obtain ⟨_, _, _, _, _, _, _, hkids⟩ := hok
    have hhs := high_size (.node k key tx q ln ks)
    simp only [high, T.size] at hhs hfit
    simp only [lay] at hp
    obtain ⟨g1, g2, hp2⟩ := prefix_get hp
    obtain ⟨ao, cap, rfl⟩ := hN.shape
    obtain ⟨g, off, kv, rfl, hg, _, _, _, _, _, c5, hk⟩ := hN.at g1
    dsimp only at hk
    obtain ⟨ko, kcap, rfl⟩ := hk.shape
    rw [kidAts_length] at c5 hk
    obtain ⟨m, hm⟩ : ∃ m, m = ks.length := ⟨_, rfl⟩
    rw [← hm] at c5 hk
    have b0 : (0 : Int) ≤ (b : Int) := Int.natCast_nonneg b
    have b1 : (b : Int) < (ns.length : Int) := by omega
    have hle := le_sizes ks
    have hml : m < 8796093022208 ∨ True := .inr trivial
    simp only [high]
    replace hp := Lib.hid hp
    replace hp2 := Lib.hid hp2
    replace hk := Lib.hid hk
    replace hkids := Lib.hid hkids
    replace ih := Lib.hid ih
    replace hfit := Lib.hid hfit
    replace hbig := Lib.hid hbig
    replace hhs := Lib.hid hhs
    replace hm := Lib.hid hm
    replace g1 := Lib.hid g1
    replace g2 := Lib.hid g2
    replace hle := Lib.hid hle
    replace hN := Lib.hid hN
    replace hml := Lib.hid hml
    go_enter Try.func43, Try.ntmps43
    go_wp2
    go_loopg [5, 14] (m + 1) (fun gg dv rv wr => ∃ r : Nat, gg = m - r + 1 ∧ dv = .int .i64 (highs (ks.take r) : Nat) ∧ rv = .int .i64 r ∧ r ≤ m ∧ wr = w)
    case atStart => exact ⟨0, rfl, by simp [highs], rfl, Nat.zero_le _, rfl⟩
    case round =>
      obtain ⟨r, rfl, rfl, rfl, hrm, rfl⟩ := hrel
      by_cases hlt : r < m
      · have k4 := nn_lt hlt
        obtain ⟨x, hx⟩ : ∃ x, ks[r]? = some x := ⟨_, List.getElem?_eq_getElem (by rw [← hm.out]; exact hlt)⟩
        have hkx := kidAts_at (b := b + 1) hx
        have hlx := lays_at hx hp2.out
        obtain ⟨y, hy⟩ : ∃ y, y = b + 1 + sizes (ks.take r) := ⟨_, rfl⟩
        rw [← hy] at hkx hlx
        obtain ⟨kg, koff, rfl, hkg, ck⟩ := hk.out.at hkx
        have hC := ih.out y x wr (hkids.out x (List.mem_of_getElem? hx)) hlx hN.out
        have hts : ks.take (r + 1) = ks.take r ++ [x] := by
          obtain ⟨hx1, hx2⟩ := List.getElem?_eq_some_iff.1 hx
          rw [List.take_succ_eq_append_getElem hx1, hx2]
        have hsn : highs (ks.take (r + 1)) = max (highs (ks.take r)) (high x) := by rw [hts, highs_snoc]
        obtain ⟨D, hD⟩ : ∃ D, D = highs (ks.take r) := ⟨_, rfl⟩
        obtain ⟨H, hH⟩ : ∃ H, H = high x := ⟨_, rfl⟩
        rw [← hH] at hC
        rw [← hD, ← hH] at hsn
        rw [← hD]
        have hwk : Hid (wrap64 ((r : Int) + 1) = ((r + 1 : Nat) : Int)) := Lib.hid (by have := hfit.out; have := hbig.out; have := hle.out; have := hm.out; unfold wrap64; omega)
        by_cases hq : D < H
        · have hqi : (D : Int) < (H : Int) := by omega
          have hr1 : highs (ks.take (r + 1)) = H := by rw [hsn]; omega
          replace hx := Lib.hid hx
          replace hkx := Lib.hid hkx
          replace hlx := Lib.hid hlx
          replace hC := Lib.hid hC
          replace hts := Lib.hid hts
          replace hsn := Lib.hid hsn
          replace hD := Lib.hid hD
          replace hH := Lib.hid hH
          replace hr1 := Lib.hid hr1
          replace hy := Lib.hid hy
          replace hrm := Lib.hid hrm
          replace hq := Lib.hid hq
          replace hkg := Lib.hid hkg
          go_wp2_with (first
            | (go_at_call 43; (with_reducible refine hC.out.mono ?_); rintro ev wy ⟨rfl, rfl⟩)
            | fail)
          go_roundg (m - (r + 1) + 1)
          case rel => exact ⟨r + 1, rfl, by rw [hr1.out], by rw [hwk.out], hlt, rfl⟩
          case measure => exact nn_down2 hlt
        · have hqi : decide ((D : Int) < (H : Int)) = false := decide_eq_false (by omega)
          have hqn : decide (D < H) = false := decide_eq_false hq
          have hr1 : highs (ks.take (r + 1)) = D := by rw [hsn]; omega
          replace hx := Lib.hid hx
          replace hkx := Lib.hid hkx
          replace hlx := Lib.hid hlx
          replace hC := Lib.hid hC
          replace hts := Lib.hid hts
          replace hsn := Lib.hid hsn
          replace hD := Lib.hid hD
          replace hH := Lib.hid hH
          replace hr1 := Lib.hid hr1
          replace hy := Lib.hid hy
          replace hrm := Lib.hid hrm
          replace hq := Lib.hid hq
          replace hkg := Lib.hid hkg
          go_wp2_with (first
            | (go_at_call 43; (with_reducible refine hC.out.mono ?_); rintro ev wy ⟨rfl, rfl⟩)
            | fail)
          go_roundg (m - (r + 1) + 1)
          case rel => exact ⟨r + 1, rfl, by rw [hr1.out], by rw [hwk.out], hlt, rfl⟩
          case measure => exact nn_down2 hlt
      · have k4 := nn_ge hlt
        have k5 : decide (r < m) = false := decide_eq_false hlt
        have hr1 : ks.take r = ks := List.take_of_length_le (by rw [← hm.out]; omega)
        rw [hr1]
        have hwh : wrap64 ((highs ks : Nat) + 1 : Int) = ((highs ks + 1 : Nat) : Int) := by have := hhs.out; have := hfit.out; have := hbig.out; unfold wrap64; omega
        replace hr1 := Lib.hid hr1
        replace hrm := Lib.hid hrm
        replace hlt := Lib.hid hlt
        go_wp2
        go_ret
        exact ⟨by rw [← hwh]; rfl, rfl⟩
def depthR (ns : List Nd) (t : T) : Nat := if mayR ns then high t else 0
theorem depth_may {t : T} (h : okT 16 t) {v : Value} {w : World} (hm : mayR (lay 0 t) = true) (hN : NdV w v (lay 0 t)) : Calls Try.prog 28 #[v] w fun e w' => e = .returned (.int .i64 (high t : Nat)) ∧ Below w.heap.size w w' := by
  have hM := may_any (lay 0 t) v w hN
  rw [hm] at hM
  have hD : ∀ w', Below w.heap.size w w' → Calls Try.prog 43 #[v, .int .i64 0] w' fun e w2 => e = .returned (.int .i64 (high t : Nat)) ∧ w2 = w' := fun w' hb => deep_any (lay 0 t) v 16 0 t w' h ⟨[], by simp⟩ (hN.tch (Tch.of_below hb))
  obtain ⟨ao, cap, rfl⟩ := hN.shape
  replace hM := Lib.hid hM
  replace hD := Lib.hid hD
  replace hN := Lib.hid hN
  replace h := Lib.hid h
  replace hm := Lib.hid hm
  go_enter Try.func28, Try.ntmps28
  go_wp2_with (first
    | (go_at_call 21; (with_reducible refine hM.out.mono ?_); rintro ev wy ⟨rfl, hy⟩; have hD2 := Lib.hid (hD.out wy hy); replace hy := Lib.hid hy)
    | (go_at_call 43; (with_reducible refine hD2.out.mono ?_); rintro ev wz ⟨rfl, rfl⟩)
    | fail)
  go_ret
  exact ⟨rfl, hy.out⟩
theorem depth_not {ns : List Nd} {v : Value} {w : World} (hm : mayR ns = false) (hN : NdV w v ns) : Calls Try.prog 28 #[v] w fun e w' => e = .returned (.int .i64 0) ∧ Below w.heap.size w w' := by
  have hM := may_any ns v w hN
  rw [hm] at hM
  obtain ⟨ao, cap, rfl⟩ := hN.shape
  replace hM := Lib.hid hM
  replace hN := Lib.hid hN
  replace hm := Lib.hid hm
  go_enter Try.func28, Try.ntmps28
  go_wp2_with (first
    | (go_at_call 21; (with_reducible refine hM.out.mono ?_); rintro ev wy ⟨rfl, hy⟩; replace hy := Lib.hid hy)
    | fail)
  go_ret
  exact ⟨rfl, hy.out⟩
def getA (r : Option Int) : Value := match r with
  | some k => .tuple #[.int .i64 k, .bool true]
  | none => .tuple #[.int .i64 0, .bool false]
theorem get_any (ns : List Nd) (v : Value) (at' : Int) (key : ByteArray) (w : World) (hN : NdV w v ns) : Calls Try.prog 31 #[v, .int .i64 at', .string key] w fun e w' => e = .returned (getA (getR ns at' key)) ∧ w' = w := by
  obtain ⟨ao, cap, rfl⟩ := hN.shape
  by_cases h1 : at' < 0
  · have hr : getR ns at' key = none := by unfold getR; rw [if_pos (.inl h1)]
    rw [hr]
    replace hN := Lib.hid hN
    replace hr := Lib.hid hr
    go_enter Try.func31, Try.ntmps31
    go_wp2
    go_ret2
    exact ⟨rfl, rfl⟩
  · have h1' : decide (at' < 0) = false := decide_eq_false h1
    by_cases h2 : (ns.length : Int) ≤ at'
    · have hr : getR ns at' key = none := by unfold getR; rw [if_pos (.inr h2)]
      rw [hr]
      replace hN := Lib.hid hN
      replace hr := Lib.hid hr
      replace h1 := Lib.hid h1
      go_enter Try.func31, Try.ntmps31
      go_wp2
      go_ret2
      exact ⟨rfl, rfl⟩
    · obtain ⟨i, rfl⟩ : ∃ i : Nat, at' = i := ⟨at'.toNat, by omega⟩
      have hi : i < ns.length := by omega
      have h2' : decide ((ns.length : Int) ≤ (i : Int)) = false := decide_eq_false h2
      have h2n : decide (ns.length ≤ i) = false := decide_eq_false (by omega)
      have h3 : (i : Int) < (ns.length : Int) := by omega
      have h4 : (0 : Int) ≤ (i : Int) := by omega
      obtain ⟨n, hn⟩ : ∃ n, ns[i]? = some n := ⟨_, List.getElem?_eq_getElem hi⟩
      obtain ⟨g, off, kv, rfl, hg, c0, _, _, _, _, c5, hk⟩ := hN.at hn
      obtain ⟨ko, kcap, rfl⟩ := hk.shape
      have hr : getR ns i key = if n.kind = 2 then n.kids.find? (hit ns key) else none := by
        unfold getR
        rw [if_neg (by omega)]
        simp only [Int.toNat_natCast, hn]
      obtain ⟨nk, nkey, tx, qd, ln, ks⟩ := n
      dsimp only at c0 c5 hk hr
      rw [hr]
      by_cases hnk : nk = 2
      · subst hnk
        rw [if_pos rfl]
        obtain ⟨m, hm⟩ : ∃ m, m = ks.length := ⟨_, rfl⟩
        rw [← hm] at c5 hk
        have hml : m ≤ 140737488351232 := by obtain ⟨_, _, _, h, _⟩ := hk; omega
        have hdrop : ks.find? (hit ns key) = (ks.drop 0).find? (hit ns key) := rfl
        replace hN := Lib.hid hN
        replace hr := Lib.hid hr
        replace h1 := Lib.hid h1
        replace h2 := Lib.hid h2
        replace hn := Lib.hid hn
        replace hk := Lib.hid hk
        replace hm := Lib.hid hm
        replace hml := Lib.hid hml
        replace hi := Lib.hid hi
        replace hg := Lib.hid hg
        replace hdrop := Lib.hid hdrop
        go_enter Try.func31, Try.ntmps31
        go_wp2
        go_loopg [32] (m + 1) (fun gg rv wr => ∃ r : Nat, gg = m - r + 1 ∧ rv = .int .i64 r ∧ r ≤ m ∧ wr = w ∧ ks.find? (hit ns key) = (ks.drop r).find? (hit ns key))
        case atStart => exact ⟨0, rfl, rfl, Nat.zero_le _, rfl, rfl⟩
        case round =>
          obtain ⟨r, rfl, rfl, hrm, rfl, hfi⟩ := hrel
          by_cases hlt : r < m
          · have k4 := nn_lt hlt
            obtain ⟨x, hx⟩ : ∃ x, ks[r]? = some x := ⟨_, List.getElem?_eq_getElem (by rw [← hm.out]; exact hlt)⟩
            obtain ⟨kg, koff, rfl, hkg, ck⟩ := hk.out.at hx
            have hdr : ks.drop r = x :: ks.drop (r + 1) := by
              obtain ⟨hx1, hx2⟩ := List.getElem?_eq_some_iff.1 hx
              rw [List.drop_eq_getElem_cons hx1, hx2]
            rw [hdr, List.find?_cons] at hfi
            have hwk : Hid (wrap64 ((r : Int) + 1) = ((r + 1 : Nat) : Int)) := Lib.hid (by have := hml.out; unfold wrap64; omega)
            by_cases hx0 : x < 0
            · have hx0' : decide ((0 : Int) ≤ x) = false := decide_eq_false (by omega)
              have hh : hit ns key x = false := by unfold hit; rw [hx0']; rfl
              rw [hh] at hfi
              replace hfi := Lib.hid hfi
              replace hx := Lib.hid hx
              replace hdr := Lib.hid hdr
              replace hh := Lib.hid hh
              replace hrm := Lib.hid hrm
              replace hx0 := Lib.hid hx0
              replace hkg := Lib.hid hkg
              go_wp2
              go_roundg (m - (r + 1) + 1)
              case rel => exact ⟨r + 1, rfl, by rw [hwk.out], hlt, rfl, hfi.out⟩
              case measure => exact nn_down2 hlt
            · have hx0' : (0 : Int) ≤ x := by omega
              by_cases hxl : x < (ns.length : Int)
              · obtain ⟨j, rfl⟩ : ∃ j : Nat, x = j := ⟨x.toNat, by omega⟩
                obtain ⟨mn, hmn⟩ : ∃ mn, ns[j]? = some mn := ⟨_, List.getElem?_eq_getElem (by omega)⟩
                obtain ⟨g', off', kv', eg, hg', _, b1, _, _, _, _, _⟩ := hN.out.at hmn
                cases eg
                have hh : hit ns key j = (mn.key.toList == key.toList) := by
                  unfold hit
                  rw [decide_eq_true hx0', decide_eq_true hxl]
                  simp only [Int.toNat_natCast, hmn, Bool.true_and]
                rw [hh] at hfi
                cases he : (mn.key.toList == key.toList) with
                | false =>
                  rw [he] at hfi
                  replace hfi := Lib.hid hfi
                  replace hx := Lib.hid hx
                  replace hdr := Lib.hid hdr
                  replace hh := Lib.hid hh
                  replace hrm := Lib.hid hrm
                  replace hx0 := Lib.hid hx0
                  replace hkg := Lib.hid hkg
                  replace hmn := Lib.hid hmn
                  go_wp2
                  go_roundg (m - (r + 1) + 1)
                  case rel => exact ⟨r + 1, rfl, by rw [hwk.out], hlt, rfl, hfi.out⟩
                  case measure => exact nn_down2 hlt
                | true =>
                  rw [he] at hfi
                  replace hfi := Lib.hid hfi
                  replace hx := Lib.hid hx
                  replace hdr := Lib.hid hdr
                  replace hh := Lib.hid hh
                  replace hrm := Lib.hid hrm
                  replace hx0 := Lib.hid hx0
                  replace hkg := Lib.hid hkg
                  replace hmn := Lib.hid hmn
                  go_wp2
                  go_ret2
                  exact ⟨by rw [hfi.out]; rfl, rfl⟩
              · have hxl' : decide (x < (ns.length : Int)) = false := decide_eq_false hxl
                have hh : hit ns key x = false := by unfold hit; rw [hxl']; simp
                rw [hh] at hfi
                replace hfi := Lib.hid hfi
                replace hx := Lib.hid hx
                replace hdr := Lib.hid hdr
                replace hh := Lib.hid hh
                replace hrm := Lib.hid hrm
                replace hx0 := Lib.hid hx0
                replace hkg := Lib.hid hkg
                replace hxl := Lib.hid hxl
                go_wp2
                go_roundg (m - (r + 1) + 1)
                case rel => exact ⟨r + 1, rfl, by rw [hwk.out], hlt, rfl, hfi.out⟩
                case measure => exact nn_down2 hlt
          · have k4 := nn_ge hlt
            have k5 : decide (r < m) = false := decide_eq_false hlt
            rw [List.drop_of_length_le (by rw [← hm.out]; omega)] at hfi
            replace hfi := Lib.hid hfi
            replace hrm := Lib.hid hrm
            replace hlt := Lib.hid hlt
            go_wp2
            go_ret2
            exact ⟨by rw [hfi.out]; rfl, rfl⟩
      · have hnb : (nk == 2) = false := by rw [beq_eq_false_iff_ne]; exact hnk
        have hnb2 : (nk != 2) = true := by simp [bne, hnb]
        rw [if_neg hnk]
        replace hN := Lib.hid hN
        replace hr := Lib.hid hr
        replace h1 := Lib.hid h1
        replace h2 := Lib.hid h2
        replace hn := Lib.hid hn
        replace hk := Lib.hid hk
        replace hi := Lib.hid hi
        replace hg := Lib.hid hg
        replace hnk := Lib.hid hnk
        go_enter Try.func31, Try.ntmps31
        go_wp2
        go_ret2
        exact ⟨rfl, rfl⟩
end Go.Proofs.Ytcnjmkjfgghgoaa
end

section
/- block, for every fuel. -/
namespace Go.Proofs.Ytcnjmkjfgghgoaa
open Go.RowKit Go.Mp Go.Tr
theorem block_all {l : List Tok} (hll : l.length < 4398046511104) (f : Nat) : BlockOK l f := by
  induction f using Nat.strongRecOn with
  | _ f ih => exact block_any hll (dict_any hll fun g hg => value_any (ih g hg)) (list_any hll fun g hg => value_any (ih g hg))
end Go.Proofs.Ytcnjmkjfgghgoaa
end

section

namespace Go.Proofs.Ytcnjmkjfgghgoaa
open Go.RowKit Go.Mp Go.Tr
set_option linter.unusedVariables false
set_option maxRecDepth 20000
theorem hide_post {P : Program} {c : Code} {Q : Exit → Act → World → Prop} {a : Act} {w : World} (h : ∀ Q', Q' = Q → c.wp P Q' a w) : c.wp P Q a w := h Q rfl
theorem tmps_is {P : Program} {c : Code} {Q : Exit → Act → World → Prop} {t t' : Array Value} {w : World} (e : t = t') (h : c.wp P Q { tmps := t', defers := [] } w) : c.wp P Q { tmps := t, defers := [] } w := e ▸ h
theorem eql_iface_nil {P : Program} {ti : TypeId} {ms : Array (String × TypeId)} (tp : TypeId) (v : Value) (hi : P.underlying ti = some (.interface ms)) (w : World) :
    (binOp .eql ti (.iface tp v) .nilIface).run P w = .ok (.bool false) w := by
  have h : ∀ d : Nat, (Op.equalIn (d + 1) ti (.iface tp v) .nilIface).run P w = .ok false w := fun d => by simp [Op.equalIn, run_underlying hi]
  simp only [binOp]
  simp [Op.equal, Op.maxDepth, h 9999]
theorem catch_idle (p q r : Addr) (w : World) :
    CallsD Try.prog 45 #[.pointer (some p), .pointer (some q), .pointer (some r)] .returning w fun e u' w' => e = .returned (.tuple #[]) ∧ u' = .returning ∧ w' = w := by
  refine callsD_of_wpS Try.func45 rfl fun c₀ cs hu => ?_
  apply wpS_seq
  apply wpS_region
  simp [wpOpsS, go_sem, recoverD, hu, Try.ntmps45, Exit.thenS]
  apply wpS_seq
  apply wpS_seq
  apply wpS_region
  simp [wpOpsS, go_sem, Exit.thenS]
  refine wpS_cond (t := true) (by simp [Act.eval, Array.replicate]) ?_
  simp only [if_true]
  refine wpS_of_wp (wp_ret ?_)
  cases c₀
  simp_all [bodyPostS, results, Try.results45, Exit.thenS]
theorem catch_fault (nb lb eb : Nat) (nv x y : Value) (ln er : Int) (w : World) (h1 : w.heap[nb]? = some (.cells #[nv] 50)) (h2 : w.heap[lb]? = some (.cells #[x] 3)) (h3 : w.heap[eb]? = some (.cells #[y] 26)) (d1 : nb ≠ lb) (d2 : nb ≠ eb) (d3 : lb ≠ eb) :
    CallsD Try.prog 45 #[.pointer (some ⟨nb, 0, none⟩), .pointer (some ⟨lb, 0, none⟩), .pointer (some ⟨eb, 0, none⟩)] (.panicking [{ v := .iface 85 (.agg #[.int .i64 ln, .int .i64 er]), recovered := false }]) w fun e u' w' =>
      e = .returned (.tuple #[]) ∧ u' = .panicking [{ v := .iface 85 (.agg #[.int .i64 ln, .int .i64 er]), recovered := true }] ∧ w'.heap[nb]? = some (.cells #[.slice none 0 0] 50) ∧ w'.heap[lb]? = some (.cells #[.int .i64 ln] 3) ∧ w'.heap[eb]? = some (.cells #[.int .i64 er] 26) ∧ Tch (fun k => k = nb ∨ k = lb ∨ k = eb) w w' := by
  refine callsD_of_wpS Try.func45 rfl fun c₀ cs hu => ?_
  apply wpS_seq
  apply wpS_region
  simp [wpOpsS, go_sem, recoverD, hu, Try.ntmps45, Exit.thenS]
  refine wpS_of_wp ?_
  refine hide_post fun Q hQ => ?_
  replace hQ := Lib.hid hQ
  refine tmps_is (t' := #[.pointer (some ⟨nb, 0, none⟩), .pointer (some ⟨lb, 0, none⟩), .pointer (some ⟨eb, 0, none⟩), .iface 85 (.agg #[.int .i64 ln, .int .i64 er]), undef, undef, .iface 85 (.agg #[.int .i64 ln, .int .i64 er]), undef, undef, undef, undef, undef, undef, undef, undef, undef, undef, undef, undef, undef, undef]) (by kernel_rfl) ?_
  have hta : ∀ w, (Instr.typeAssert (.iface 85 (.agg #[.int .i64 ln, .int .i64 er])) 20 85 true).run Try.prog w = .ok (.tuple #[.agg #[.int .i64 ln, .int .i64 er], .bool true]) w := fun w => by kernel_rfl
  have hne := eql_iface_nil (P := Try.prog) 85 (.agg #[.int .i64 ln, .int .i64 er]) Try.underlying20
  obtain ⟨w1, hw1⟩ : ∃ w1, w1 = w.alloc (.cells #[.int .i64 ln, .int .i64 er] 85) := ⟨_, rfl⟩
  have t1 : Tch No w w1 := by rw [hw1]; exact Tch.alloc No w _
  obtain ⟨cb, hcb⟩ : ∃ cb, cb = w.heap.size := ⟨_, rfl⟩
  have hc1 : w1.heap[cb]? = some (.cells #[.int .i64 ln, .int .i64 er] 85) := by rw [hw1, hcb]; exact heap_alloc_new w _
  have b1 : w1.heap[nb]? = some (.cells #[nv] 50) := (t1.block nb (Array.getElem?_eq_some_iff.1 h1).1 id).trans h1
  have b2 : w1.heap[lb]? = some (.cells #[x] 3) := (t1.block lb (Array.getElem?_eq_some_iff.1 h2).1 id).trans h2
  have b3 : w1.heap[eb]? = some (.cells #[y] 26) := (t1.block eb (Array.getElem?_eq_some_iff.1 h3).1 id).trans h3
  have n1 : nb ≠ cb := by have := (Array.getElem?_eq_some_iff.1 h1).1; omega
  have n2 : lb ≠ cb := by have := (Array.getElem?_eq_some_iff.1 h2).1; omega
  have n3 : eb ≠ cb := by have := (Array.getElem?_eq_some_iff.1 h3).1; omega
  have e0 : w1.cell? ⟨cb, 0, none⟩ = some (.int .i64 ln) := (cell_of_row _ _ 0 _ _ _ hc1).trans rfl
  have e1 : w1.cell? ⟨cb, 1, none⟩ = some (.int .i64 er) := (cell_of_row _ _ 1 _ _ _ hc1).trans rfl
  have e2 : w1.cell? ⟨nb, 0, none⟩ = some nv := (cell_of_row _ _ 0 _ _ _ b1).trans rfl
  have e3 : w1.cell? ⟨lb, 0, none⟩ = some x := (cell_of_row _ _ 0 _ _ _ b2).trans rfl
  have e4 : w1.cell? ⟨eb, 0, none⟩ = some y := (cell_of_row _ _ 0 _ _ _ b3).trans rfl
  have f2 : w1.frozen? ⟨nb, 0, none⟩ = false := frozen_of_row _ _ _ _ _ b1
  have f3 : w1.frozen? ⟨lb, 0, none⟩ = false := frozen_of_row _ _ _ _ _ b2
  have f4 : w1.frozen? ⟨eb, 0, none⟩ = false := frozen_of_row _ _ _ _ _ b3
  have fin : ∀ n, (((((w1.drewN n).setCell ⟨nb, 0, none⟩ (.slice none 0 0)).setCell ⟨lb, 0, none⟩ (.int .i64 ln)).setCell ⟨eb, 0, none⟩ (.int .i64 er)).heap[nb]? = some (.cells #[.slice none 0 0] 50) ∧ ((((w1.drewN n).setCell ⟨nb, 0, none⟩ (.slice none 0 0)).setCell ⟨lb, 0, none⟩ (.int .i64 ln)).setCell ⟨eb, 0, none⟩ (.int .i64 er)).heap[lb]? = some (.cells #[.int .i64 ln] 3) ∧ ((((w1.drewN n).setCell ⟨nb, 0, none⟩ (.slice none 0 0)).setCell ⟨lb, 0, none⟩ (.int .i64 ln)).setCell ⟨eb, 0, none⟩ (.int .i64 er)).heap[eb]? = some (.cells #[.int .i64 er] 26)) ∧ Tch (fun k => k = nb ∨ k = lb ∨ k = eb) w ((((w1.drewN n).setCell ⟨nb, 0, none⟩ (.slice none 0 0)).setCell ⟨lb, 0, none⟩ (.int .i64 ln)).setCell ⟨eb, 0, none⟩ (.int .i64 er)) := by
    intro n
    refine ⟨⟨?_, ?_, ?_⟩, ?_⟩
    · simp [World.setCell, Array.getElem?_modify, b1, d1.symm, d2.symm]
    · simp [World.setCell, Array.getElem?_modify, b2, d1, d3.symm]
    · simp [World.setCell, Array.getElem?_modify, b3, d2, d3]
    · refine (((t1.mono (fun _ h => h.elim)).trans (Tch.drewN (fun k => k = nb ∨ k = lb ∨ k = eb) w1 n) (fun _ h => .inl h)).trans (Tch.setCell (S := fun k => k = nb ∨ k = lb ∨ k = eb) _ (p := ⟨nb, 0, none⟩) (.inl rfl) (.slice none 0 0)) (fun _ h => .inl h)).trans ?_ (fun _ h => .inl h)
      exact (Tch.setCell (S := fun k => k = nb ∨ k = lb ∨ k = eb) _ (p := ⟨lb, 0, none⟩) (.inr (.inl rfl)) _).trans (Tch.setCell (S := fun k => k = nb ∨ k = lb ∨ k = eb) _ (p := ⟨eb, 0, none⟩) (.inr (.inr rfl)) _) (fun _ h => .inl h)
  have q1 : (nb = lb) = False := eq_false d1
  have q1' : (lb = nb) = False := eq_false d1.symm
  have q2 : (nb = eb) = False := eq_false d2
  have q2' : (eb = nb) = False := eq_false d2.symm
  have q3 : (lb = eb) = False := eq_false d3
  have q3' : (eb = lb) = False := eq_false d3.symm
  have q4 : (nb = cb) = False := eq_false n1
  have q5 : (lb = cb) = False := eq_false n2
  have q6 : (eb = cb) = False := eq_false n3
  replace h1 := Lib.hid h1
  replace h2 := Lib.hid h2
  replace h3 := Lib.hid h3
  replace b1 := Lib.hid b1
  replace b2 := Lib.hid b2
  replace b3 := Lib.hid b3
  replace hc1 := Lib.hid hc1
  replace t1 := Lib.hid t1
  replace hu := Lib.hid hu
  replace fin := Lib.hid fin
  clear d1 d2 d3 n1 n2 n3
  go_upto_region 3 with fail
  rw [show (w.alloc (.cells #[.int .i64 ln, .int .i64 er] 85)) = w1 from hw1.symm, ← hcb]
  replace hw1 := Lib.hid hw1
  replace hcb := Lib.hid hcb
  go_wp2
  go_region
  obtain ⟨⟨g1, g2, g3⟩, g4⟩ := fin.out 1
  rw [hQ.out]
  cases c₀
  simp [bodyPostS, results, Try.results45]
  exact ⟨g1, g2, g3, g4⟩
end Go.Proofs.Ytcnjmkjfgghgoaa
end
