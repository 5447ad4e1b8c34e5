/- plain: a plain scalar. -/
import Derived.Test.YtcnjmkjfgghgoaaZt14
import Derived.Test.YtcnjmkjfgghgoaaZt11
section

namespace Go.Ln
open Go.RowKit
def plainCut (l : List UInt8) : List UInt8 := if 0 ≤ Lib.index l [32, 35] then l.take (Lib.index l [32, 35]).toNat else l
def plainFin (t : List UInt8) : Option (List UInt8) := if 0 ≤ Lib.index t [58, 32] ∨ Lib.hasSuffix t [58] = true ∨ t = [45, 45, 45] then none else some t
theorem plain_bad1 {c : UInt8} {r : List UInt8} (h : 0 ≤ Lib.indexByte bads c) : plain (c :: r) = none := by unfold plain; simp [h]
theorem plain_bad2 {c : UInt8} {r : List UInt8} (h : c = 45) (h2 : r = [] ∨ r[0]? = some 32) : plain (c :: r) = none := by unfold plain; simp only [h, h2, and_self, or_true, if_true]
theorem plain_go {c : UInt8} {r : List UInt8} (h : ¬ 0 ≤ Lib.indexByte bads c) (h2 : ¬ (c = 45 ∧ (r = [] ∨ r[0]? = some 32))) : plain (c :: r) = plainFin (rtrim (plainCut (c :: r))) := by
  unfold plain; simp only [h, h2, or_self, if_false]; rfl
theorem rtrim_snoc (a : List UInt8) (c : UInt8) : rtrim (a ++ [c]) = if c = 32 then rtrim a else a ++ [c] := by
  unfold rtrim
  rw [List.reverse_append]
  simp only [List.reverse_cons, List.reverse_nil, List.nil_append, List.singleton_append, List.dropWhile_cons, decide_eq_true_eq]
  split
  · rfl
  · simp
theorem rtrim_nil : rtrim [] = [] := rfl
theorem take_snoc {l : List UInt8} {n : Nat} {c : UInt8} (h : l[n]? = some c) : l.take (n + 1) = l.take n ++ [c] := by
  rw [List.take_add_one, h]; rfl
theorem rtrim_down {l : List UInt8} {n : Nat} (h : l[n]? = some 32) : rtrim (l.take (n + 1)) = rtrim (l.take n) := by
  rw [take_snoc h, rtrim_snoc, if_pos rfl]
theorem rtrim_stop {l : List UInt8} {n : Nat} {c : UInt8} (h : l[n]? = some c) (hc : ¬ c = 32) : rtrim (l.take (n + 1)) = l.take (n + 1) := by
  rw [take_snoc h, rtrim_snoc, if_neg hc]
theorem drop_at (s : ByteArray) {i n : Nat} (h : i + n < s.size) : (s.data.toList.drop i)[n]? = some s[i + n] := by
  rw [List.getElem?_drop]; exact at_data s h
end Go.Ln
namespace Go.Proofs.Ytcnjmkjfgghgoaa
open Go.RowKit Go.Ln
set_option linter.unusedVariables false
set_option maxRecDepth 100000
set_option maxHeartbeats 4000000
def plainV (i : Nat) : Option (List UInt8) → Value
  | none => .tuple #[.int .i64 0, .bool false]
  | some t => .tuple #[.int .i64 ((i + t.length : Nat) : Int), .bool true]
theorem pl_ne {c : UInt8} {x : Int} (hx : x = (c.toNat : Int)) {n : Nat} (hn : n < 256) (h : (x == (n : Int)) = false) : ¬ c = UInt8.ofNat n := by
  intro e
  rw [beq_eq_false_iff_ne] at h
  exact h (by rw [hx]; exact (u8_eq hn).1 e)
theorem pl_is {c : UInt8} {x : Int} (hx : x = (c.toNat : Int)) {n : Nat} (hn : n < 256) (h : (x == (n : Int)) = true) : c = UInt8.ofNat n := by
  rw [beq_iff_eq] at h
  exact (u8_eq hn).2 (by rw [← hx]; exact h)
theorem pl_small {s : ByteArray} {i : Nat} (h : s.size < 4294967281) : (s.extract i s.size).size < 4294967281 := by rw [ByteArray.size_extract]; omega
theorem pl_nums {i e n : Nat} (hs : n < 4294967281) (h : i < e) (h2 : e ≤ n) : decide ((i : Int) < (e : Int)) = true ∧ wrap64 ((e : Int) - 1) = (e : Int) - 1 ∧ 0 ≤ (e : Int) - 1 ∧ (e : Int) - 1 < (n : Int) ∧ ((e : Int) - 1).toNat = e - 1 ∧ e - 1 < n :=
  ⟨decide_eq_true (by omega), by unfold wrap64; omega, by omega, by omega, by omega, by omega⟩
theorem pl_at (s : ByteArray) {i e : Nat} (h : i < e) (h2 : e ≤ s.size) : (s.data.toList.drop i)[e - 1 - i]? = some (s[e - 1]'(by omega)) := by
  rw [List.getElem?_drop, show i + (e - 1 - i) = e - 1 by omega]
  exact at_data s (by omega)
theorem pl_len {i e : Nat} (h : i < e) : e - i = e - 1 - i + 1 := by omega
theorem pl_idx {i e : Nat} (h : i < e) : Value.int .i64 ((e : Int) - 1) = .int .i64 ((e - 1 : Nat) : Int) := by congr 1; omega
theorem pl_le {i e : Nat} (h : i < e) : i ≤ e - 1 := by omega
theorem pl_le2 {e n : Nat} (h : e ≤ n) : e - 1 ≤ n := by omega
theorem pl_down {i e : Nat} (h : i < e) : e - 1 - i + 1 < e - i + 1 := by omega
theorem pl_cut {s : ByteArray} {i e0 : Nat} {k : Int} (hs : s.size < 4294967281) (hi : i < s.size) (hk : k = Lib.index (s.data.toList.drop i) [32, 35]) (he : e0 = i + k.toNat) (h0 : 0 ≤ k) : i ≤ e0 ∧ e0 ≤ s.size ∧ wrap64 ((i : Int) + k) = (e0 : Int) ∧ plainCut (s.data.toList.drop i) = (s.data.toList.drop i).take (e0 - i) := by
  have h := Lib.index_le (s.data.toList.drop i) [32, 35]
  rw [← hk, List.length_drop, len_data] at h
  refine ⟨by omega, by omega, by unfold wrap64; omega, ?_⟩
  unfold plainCut
  rw [← hk, if_pos h0, show e0 - i = k.toNat by omega]
theorem pl_nocut {s : ByteArray} {i : Nat} {k : Int} (hk : k = Lib.index (s.data.toList.drop i) [32, 35]) (h0 : ¬ 0 ≤ k) : plainCut (s.data.toList.drop i) = (s.data.toList.drop i).take (s.size - i) := by
  unfold plainCut
  rw [← hk, if_neg h0, List.take_of_length_le]
  rw [List.length_drop, len_data]; exact Nat.le_refl _
theorem pl_ext (s : ByteArray) (i e : Nat) : (s.extract i e).data.toList = (s.data.toList.drop i).take (e - i) := by
  rw [ByteArray.data_extract, Array.toList_extract, List.extract_eq_take_drop]
theorem pl_tsize {s : ByteArray} {i e : Nat} (h : s.size < 4294967281) : (s.extract i e).size < 4294967281 ∧ (i ≤ e → e ≤ s.size → i + (s.extract i e).data.toList.length = e) := by
  refine ⟨by rw [ByteArray.size_extract]; omega, fun h1 h2 => ?_⟩
  rw [pl_ext, List.length_take, List.length_drop, len_data]; omega
theorem pl_64 {n : Nat} (h : n < 4294967281) : n ≤ 9223372036854775807 := by omega
theorem fin_bad {t : List UInt8} (h : 0 ≤ Lib.index t [58, 32] ∨ Lib.hasSuffix t [58] = true ∨ t = [45, 45, 45]) : plainFin t = none := by unfold plainFin; rw [if_pos h]
theorem fin_ok {t : List UInt8} (h1 : ¬ 0 ≤ Lib.index t [58, 32]) (h2 : Lib.hasSuffix t [58] = false) (h3 : ¬ t = [45, 45, 45]) : plainFin t = some t := by
  unfold plainFin; rw [if_neg]; rintro (h | h | h)
  · exact h1 h
  · rw [h2] at h; cases h
  · exact h3 h
theorem three_is {T : ByteArray} (h : (T.toList == [45, 45, 45]) = true) : T.data.toList = [45, 45, 45] := by
  rw [beq_iff_eq, Lib.toList_data] at h; exact h
theorem three_no {T : ByteArray} (h : (T.toList == [45, 45, 45]) = false) : ¬ T.data.toList = [45, 45, 45] := by
  rw [beq_eq_false_iff_ne, ne_eq, Lib.toList_data] at h; exact h
theorem plain_some {i e : Nat} {t : List UInt8} (h : i + t.length = e) : plainV i (some t) = .tuple #[.int .i64 (e : Int), .bool true] := by
  show Value.tuple #[.int .i64 ((i + t.length : Nat) : Int), .bool true] = _
  rw [h]
theorem plain_any (s : ByteArray) (i : Nat) (m : Int) (w : World) (hs : s.size < 4294967281) (hi : i < s.size) (hm : w.cell? ⟨0, 0, none⟩ = some (.int .i64 m)) :
    Calls Try.prog 73 #[.string s, .int .i64 i] w fun e w' => e = .returned (plainV i (plain (s.data.toList.drop i))) ∧ w = w' := by
  have ki := nn_lt2 hi
  have hdr := drop_data s hi
  obtain ⟨r, hr⟩ : ∃ r, r = plain (s.data.toList.drop i) := ⟨_, rfl⟩
  rw [← hr]
  obtain ⟨x, hx⟩ : ∃ x : Int, x = (s[i].toNat : Int) := ⟨_, rfl⟩
  have hx' : (s[i].toNat : Int) = x := hx.symm
  obtain ⟨ib, hib⟩ : ∃ ib, ib = Lib.indexByte bads s[i] := ⟨_, rfl⟩
  have hIB := Try.strings_IndexByte ⟨bads.toArray⟩ x w
  rw [show (x.toNat.toUInt8) = s[i] from by rw [hx]; exact UInt8.toNat_inj.1 (by simp), show Lib.indexByte (ByteArray.mk bads.toArray).data.toList s[i] = ib from hib.symm] at hIB
  replace hIB := Lib.hid hIB
  obtain ⟨k, hkk⟩ : ∃ k, k = Lib.index (s.data.toList.drop i) [32, 35] := ⟨_, rfl⟩
  have hIX := Try.strings_Index (s.extract i s.size) ⟨#[32, 35]⟩ m w (pl_small hs) hm
  rw [show Lib.index (s.extract i s.size).data.toList (ByteArray.mk #[32, 35]).data.toList = k from by rw [Lib.extract_to_end]; exact hkk.symm] at hIX
  replace hIX := Lib.hid hIX
  replace hs := Lib.hid hs
  replace hm := Lib.hid hm
  have hwi : wrap64 ((i : Int) + 1) = (i : Int) + 1 := by have := hs.out; unfold wrap64; omega
  have hpi : 0 ≤ (i : Int) + 1 := by omega
  have hxi : ((i : Int) + 1).toNat = i + 1 := by omega
  by_cases h0 : 0 ≤ ib
  · have q0 : decide (0 ≤ ib) = true := decide_eq_true h0
    have hv := Lib.hid (show r = none by rw [hr, hdr]; exact plain_bad1 (hib ▸ h0))
    replace hib := Lib.hid hib
    replace hx := Lib.hid hx
    replace hr := Lib.hid hr
    replace hdr := Lib.hid hdr
    go_enter Try.func73, Try.ntmps73
    go_wp2_with (first
      | (go_at_call 82; refine hIB.out.mono ?_; rintro e w2 ⟨rfl, hw2⟩; replace hw2 := hw2.symm; subst hw2)
      | fail)
    go_ret2
    exact ⟨by rw [hv.out]; rfl, rfl⟩
  · have q0 : decide (0 ≤ ib) = false := decide_eq_false h0
    have hn : ¬ 0 ≤ Lib.indexByte bads s[i] := hib ▸ h0
    cases q45 : (x == 45) with
    | true =>
      have e45 := Lib.hid (pl_is hx (n := 45) (by decide) q45)
      by_cases hl2 : i + 1 < s.size
      · have k1 : ((i : Int) + 1 == (s.size : Int)) = false := by rw [beq_eq_false_iff_ne]; omega
        have k2 : (i : Int) + 1 < (s.size : Int) := by omega
        have hdr2 := drop_data s hl2
        obtain ⟨y, hy⟩ : ∃ y : Int, y = (s[i + 1].toNat : Int) := ⟨_, rfl⟩
        have hy' : (s[i + 1].toNat : Int) = y := hy.symm
        cases q32y : (y == 32) with
        | true =>
          have e32 := pl_is hy (n := 32) (by decide) q32y
          have hv := Lib.hid (show r = none by rw [hr, hdr, hdr2]; exact plain_bad2 e45.out (.inr (congrArg some e32)))
          replace e32 := Lib.hid e32
          replace hy := Lib.hid hy
          replace hn := Lib.hid hn
          replace h0 := Lib.hid h0
          replace hib := Lib.hid hib
          replace hx := Lib.hid hx
          replace hr := Lib.hid hr
          replace hdr := Lib.hid hdr
          replace hdr2 := Lib.hid hdr2
          replace hkk := Lib.hid hkk
          go_enter Try.func73, Try.ntmps73
          go_wp2_with (first
            | (go_at_call 82; refine hIB.out.mono ?_; rintro e w2 ⟨rfl, hw2⟩; replace hw2 := hw2.symm; subst hw2)
            | fail)
          go_ret2
          exact ⟨by rw [hv.out]; rfl, rfl⟩
        | false =>
          have n32 := pl_ne hy (n := 32) (by decide) q32y
          have hv : r = plainFin (rtrim (plainCut (s.data.toList.drop i))) := by
            rw [hr, hdr]
            refine plain_go hn (fun h => ?_)
            rw [hdr2] at h
            rcases h.2 with h | h
            · cases h
            · exact n32 (Option.some.inj h)
          replace n32 := Lib.hid n32
          replace hy := Lib.hid hy
          replace hn := Lib.hid hn
          replace h0 := Lib.hid h0
          replace hib := Lib.hid hib
          replace hx := Lib.hid hx
          replace hr := Lib.hid hr
          replace hdr := Lib.hid hdr
          replace hdr2 := Lib.hid hdr2
          by_cases hk : 0 ≤ k
          · have qk : decide (0 ≤ k) = true := decide_eq_true hk
            obtain ⟨e0, he0⟩ : ∃ e0, e0 = i + k.toNat := ⟨_, rfl⟩
            obtain ⟨z1, z2, z3, z4⟩ := pl_cut hs.out hi hkk he0 hk
            rw [z4] at hv
            replace hkk := Lib.hid hkk
            replace he0 := Lib.hid he0
            replace z1 := Lib.hid z1
            replace z2 := Lib.hid z2
            go_enter Try.func73, Try.ntmps73
            go_wp2_with (first
              | (go_at_call 82; refine hIB.out.mono ?_; rintro e w2 ⟨rfl, hw2⟩; replace hw2 := hw2.symm; subst hw2)
              | (go_at_call 84; refine hIX.out.mono ?_; rintro e w2 ⟨rfl, hw2⟩; replace hw2 := hw2.symm; subst hw2)
              | fail)
            go_loopg [6] (e0 - i + 1) (fun gg ev wr => ∃ e : Nat, gg = e - i + 1 ∧ ev = .int .i64 e ∧ i ≤ e ∧ e ≤ s.size ∧ r = plainFin (rtrim ((s.data.toList.drop i).take (e - i))) ∧ w = wr)
            case atStart => exact ⟨e0, rfl, by first | rfl | rw [z3], z1.out, z2.out, hv, rfl⟩
            case round =>
              obtain ⟨e, rfl, rfl, hie, hes, hb, rfl⟩ := hrel
              by_cases hlt : i < e
              · obtain ⟨k0, k1, k2, k3, k4, k5⟩ := pl_nums hs.out hlt hes
                obtain ⟨y, hy⟩ : ∃ y : Int, y = (s[e - 1].toNat : Int) := ⟨_, rfl⟩
                have hy' : (s[e - 1].toNat : Int) = y := hy.symm
                have hat := pl_at s hlt hes
                cases q32 : (y == 32) with
                | true =>
                  have e32 := pl_is hy (n := 32) (by decide) q32
                  have hb2 := Lib.hid (show r = plainFin (rtrim ((s.data.toList.drop i).take (e - 1 - i))) from by rw [hb, pl_len hlt, rtrim_down (hat.trans (congrArg some e32))])
                  replace e32 := Lib.hid e32
                  replace hb := Lib.hid hb
                  replace hat := Lib.hid hat
                  replace hy := Lib.hid hy
                  replace hie := Lib.hid hie
                  replace hes := Lib.hid hes
                  go_wp2
                  go_roundg (e - 1 - i + 1)
                  case rel => exact ⟨e - 1, rfl, (by rw [k1]; exact pl_idx hlt), pl_le hlt, pl_le2 hes.out, hb2.out, rfl⟩
                  case measure => exact pl_down hlt
                | false =>
                  have e32 := pl_ne hy (n := 32) (by decide) q32
                  have hb2 := Lib.hid (show r = plainFin ((s.data.toList.drop i).take (e - i)) from by rw [hb, pl_len hlt, rtrim_stop hat e32])
                  replace e32 := Lib.hid e32
                  replace hb := Lib.hid hb
                  replace hat := Lib.hid hat
                  replace hy := Lib.hid hy
                  obtain ⟨T, hT0⟩ : ∃ T, T = s.extract i e := ⟨_, rfl⟩
                  have hT := Lib.hid (show (s.data.toList.drop i).take (e - i) = T.data.toList from by rw [hT0]; exact (pl_ext s i e).symm)
                  have hTs := Lib.hid (show T.size < 4294967281 ∧ (i ≤ e → e ≤ s.size → i + T.data.toList.length = e) from by rw [hT0]; exact pl_tsize hs.out)
                  replace hie := Lib.hid hie
                  replace hes := Lib.hid hes
                  go_upto_region 10 with fail
                  rw [← hT0]
                  replace hT0 := Lib.hid hT0
                  obtain ⟨c1, hc1⟩ : ∃ c, c = Lib.contains T.data.toList [58, 32] := ⟨_, rfl⟩
                  obtain ⟨c2, hc2⟩ : ∃ c, c = Lib.hasSuffix T.data.toList [58] := ⟨_, rfl⟩
                  obtain ⟨c3, hc3⟩ : ∃ c, (T.toList == [45, 45, 45]) = c := ⟨_, rfl⟩
                  have hC := Lib.hid (show Calls Try.prog 85 #[.string T, .string ⟨#[58, 32]⟩] w fun e w' => e = .returned (.bool c1) ∧ w' = w from by rw [hc1]; exact Try.strings_Contains T ⟨#[58, 32]⟩ m w hTs.out.1 hm.out)
                  have hS := Lib.hid (show Calls Try.prog 86 #[.string T, .string ⟨#[58]⟩] w fun e w' => e = .returned (.bool c2) ∧ w' = w from by rw [hc2]; exact Try.strings_HasSuffix T ⟨#[58]⟩ w (pl_64 hTs.out.1))
                  replace hc1 := Lib.hid hc1
                  replace hc2 := Lib.hid hc2
                  cases c1 with
                  | true =>
                    have hv2 := Lib.hid (show r = none by rw [hb2.out, hT.out]; exact fin_bad (.inl (of_decide_eq_true hc1.out.symm)))
                    go_wp2_with (first | (go_at_call 85; refine hC.out.mono ?_; rintro e9 w2 ⟨rfl, hw2⟩; replace hw2 := hw2.symm; subst hw2) | (go_at_call 86; refine hS.out.mono ?_; rintro e9 w2 ⟨rfl, hw2⟩; replace hw2 := hw2.symm; subst hw2) | fail)
                    go_ret2
                    exact ⟨by rw [hv2.out]; rfl, rfl⟩
                  | false =>
                    cases c2 with
                    | true =>
                      have hv2 := Lib.hid (show r = none by rw [hb2.out, hT.out]; exact fin_bad (.inr (.inl hc2.out.symm)))
                      go_wp2_with (first | (go_at_call 85; refine hC.out.mono ?_; rintro e9 w2 ⟨rfl, hw2⟩; replace hw2 := hw2.symm; subst hw2) | (go_at_call 86; refine hS.out.mono ?_; rintro e9 w2 ⟨rfl, hw2⟩; replace hw2 := hw2.symm; subst hw2) | fail)
                      go_ret2
                      exact ⟨by rw [hv2.out]; rfl, rfl⟩
                    | false =>
                      cases c3 with
                      | true =>
                        have hv2 := Lib.hid (show r = none by rw [hb2.out, hT.out]; exact fin_bad (.inr (.inr (three_is hc3))))
                        go_wp2_with (first | (go_at_call 85; refine hC.out.mono ?_; rintro e9 w2 ⟨rfl, hw2⟩; replace hw2 := hw2.symm; subst hw2) | (go_at_call 86; refine hS.out.mono ?_; rintro e9 w2 ⟨rfl, hw2⟩; replace hw2 := hw2.symm; subst hw2) | fail)
                        go_ret2
                        exact ⟨by rw [hv2.out]; rfl, rfl⟩
                      | false =>
                        have hv2 := Lib.hid (show r = some T.data.toList by rw [hb2.out, hT.out]; exact fin_ok (of_decide_eq_false hc1.out.symm) hc2.out.symm (three_no hc3))
                        go_wp2_with (first | (go_at_call 85; refine hC.out.mono ?_; rintro e9 w2 ⟨rfl, hw2⟩; replace hw2 := hw2.symm; subst hw2) | (go_at_call 86; refine hS.out.mono ?_; rintro e9 w2 ⟨rfl, hw2⟩; replace hw2 := hw2.symm; subst hw2) | fail)
                        go_ret2
                        exact ⟨by rw [hv2.out, plain_some (hTs.out.2 hie.out hes.out)]; rfl, rfl⟩
              · have k1 : decide ((i : Int) < (e : Int)) = false := decide_eq_false (by omega)
                have hb2 := Lib.hid (show r = plainFin ((s.data.toList.drop i).take (e - i)) from by rw [hb, show e - i = 0 by omega]; rfl)
                replace hb := Lib.hid hb
                obtain ⟨T, hT0⟩ : ∃ T, T = s.extract i e := ⟨_, rfl⟩
                have hT := Lib.hid (show (s.data.toList.drop i).take (e - i) = T.data.toList from by rw [hT0]; exact (pl_ext s i e).symm)
                have hTs := Lib.hid (show T.size < 4294967281 ∧ (i ≤ e → e ≤ s.size → i + T.data.toList.length = e) from by rw [hT0]; exact pl_tsize hs.out)
                replace hie := Lib.hid hie
                replace hes := Lib.hid hes
                go_upto_region 10 with fail
                rw [← hT0]
                replace hT0 := Lib.hid hT0
                obtain ⟨c1, hc1⟩ : ∃ c, c = Lib.contains T.data.toList [58, 32] := ⟨_, rfl⟩
                obtain ⟨c2, hc2⟩ : ∃ c, c = Lib.hasSuffix T.data.toList [58] := ⟨_, rfl⟩
                obtain ⟨c3, hc3⟩ : ∃ c, (T.toList == [45, 45, 45]) = c := ⟨_, rfl⟩
                have hC := Lib.hid (show Calls Try.prog 85 #[.string T, .string ⟨#[58, 32]⟩] w fun e w' => e = .returned (.bool c1) ∧ w' = w from by rw [hc1]; exact Try.strings_Contains T ⟨#[58, 32]⟩ m w hTs.out.1 hm.out)
                have hS := Lib.hid (show Calls Try.prog 86 #[.string T, .string ⟨#[58]⟩] w fun e w' => e = .returned (.bool c2) ∧ w' = w from by rw [hc2]; exact Try.strings_HasSuffix T ⟨#[58]⟩ w (pl_64 hTs.out.1))
                replace hc1 := Lib.hid hc1
                replace hc2 := Lib.hid hc2
                cases c1 with
                | true =>
                  have hv2 := Lib.hid (show r = none by rw [hb2.out, hT.out]; exact fin_bad (.inl (of_decide_eq_true hc1.out.symm)))
                  go_wp2_with (first | (go_at_call 85; refine hC.out.mono ?_; rintro e9 w2 ⟨rfl, hw2⟩; replace hw2 := hw2.symm; subst hw2) | (go_at_call 86; refine hS.out.mono ?_; rintro e9 w2 ⟨rfl, hw2⟩; replace hw2 := hw2.symm; subst hw2) | fail)
                  go_ret2
                  exact ⟨by rw [hv2.out]; rfl, rfl⟩
                | false =>
                  cases c2 with
                  | true =>
                    have hv2 := Lib.hid (show r = none by rw [hb2.out, hT.out]; exact fin_bad (.inr (.inl hc2.out.symm)))
                    go_wp2_with (first | (go_at_call 85; refine hC.out.mono ?_; rintro e9 w2 ⟨rfl, hw2⟩; replace hw2 := hw2.symm; subst hw2) | (go_at_call 86; refine hS.out.mono ?_; rintro e9 w2 ⟨rfl, hw2⟩; replace hw2 := hw2.symm; subst hw2) | fail)
                    go_ret2
                    exact ⟨by rw [hv2.out]; rfl, rfl⟩
                  | false =>
                    cases c3 with
                    | true =>
                      have hv2 := Lib.hid (show r = none by rw [hb2.out, hT.out]; exact fin_bad (.inr (.inr (three_is hc3))))
                      go_wp2_with (first | (go_at_call 85; refine hC.out.mono ?_; rintro e9 w2 ⟨rfl, hw2⟩; replace hw2 := hw2.symm; subst hw2) | (go_at_call 86; refine hS.out.mono ?_; rintro e9 w2 ⟨rfl, hw2⟩; replace hw2 := hw2.symm; subst hw2) | fail)
                      go_ret2
                      exact ⟨by rw [hv2.out]; rfl, rfl⟩
                    | false =>
                      have hv2 := Lib.hid (show r = some T.data.toList by rw [hb2.out, hT.out]; exact fin_ok (of_decide_eq_false hc1.out.symm) hc2.out.symm (three_no hc3))
                      go_wp2_with (first | (go_at_call 85; refine hC.out.mono ?_; rintro e9 w2 ⟨rfl, hw2⟩; replace hw2 := hw2.symm; subst hw2) | (go_at_call 86; refine hS.out.mono ?_; rintro e9 w2 ⟨rfl, hw2⟩; replace hw2 := hw2.symm; subst hw2) | fail)
                      go_ret2
                      exact ⟨by rw [hv2.out, plain_some (hTs.out.2 hie.out hes.out)]; rfl, rfl⟩
          · have qk : decide (0 ≤ k) = false := decide_eq_false hk
            have z4 := pl_nocut hkk hk
            rw [z4] at hv
            replace hkk := Lib.hid hkk
            replace hk := Lib.hid hk
            go_enter Try.func73, Try.ntmps73
            go_wp2_with (first
              | (go_at_call 82; refine hIB.out.mono ?_; rintro e w2 ⟨rfl, hw2⟩; replace hw2 := hw2.symm; subst hw2)
              | (go_at_call 84; refine hIX.out.mono ?_; rintro e w2 ⟨rfl, hw2⟩; replace hw2 := hw2.symm; subst hw2)
              | fail)
            go_loopg [6] (s.size - i + 1) (fun gg ev wr => ∃ e : Nat, gg = e - i + 1 ∧ ev = .int .i64 e ∧ i ≤ e ∧ e ≤ s.size ∧ r = plainFin (rtrim ((s.data.toList.drop i).take (e - i))) ∧ w = wr)
            case atStart => exact ⟨s.size, rfl, rfl, Nat.le_of_lt hi, Nat.le_refl _, hv, rfl⟩
            case round =>
              obtain ⟨e, rfl, rfl, hie, hes, hb, rfl⟩ := hrel
              by_cases hlt : i < e
              · obtain ⟨k0, k1, k2, k3, k4, k5⟩ := pl_nums hs.out hlt hes
                obtain ⟨y, hy⟩ : ∃ y : Int, y = (s[e - 1].toNat : Int) := ⟨_, rfl⟩
                have hy' : (s[e - 1].toNat : Int) = y := hy.symm
                have hat := pl_at s hlt hes
                cases q32 : (y == 32) with
                | true =>
                  have e32 := pl_is hy (n := 32) (by decide) q32
                  have hb2 := Lib.hid (show r = plainFin (rtrim ((s.data.toList.drop i).take (e - 1 - i))) from by rw [hb, pl_len hlt, rtrim_down (hat.trans (congrArg some e32))])
                  replace e32 := Lib.hid e32
                  replace hb := Lib.hid hb
                  replace hat := Lib.hid hat
                  replace hy := Lib.hid hy
                  replace hie := Lib.hid hie
                  replace hes := Lib.hid hes
                  go_wp2
                  go_roundg (e - 1 - i + 1)
                  case rel => exact ⟨e - 1, rfl, (by rw [k1]; exact pl_idx hlt), pl_le hlt, pl_le2 hes.out, hb2.out, rfl⟩
                  case measure => exact pl_down hlt
                | false =>
                  have e32 := pl_ne hy (n := 32) (by decide) q32
                  have hb2 := Lib.hid (show r = plainFin ((s.data.toList.drop i).take (e - i)) from by rw [hb, pl_len hlt, rtrim_stop hat e32])
                  replace e32 := Lib.hid e32
                  replace hb := Lib.hid hb
                  replace hat := Lib.hid hat
                  replace hy := Lib.hid hy
                  obtain ⟨T, hT0⟩ : ∃ T, T = s.extract i e := ⟨_, rfl⟩
                  have hT := Lib.hid (show (s.data.toList.drop i).take (e - i) = T.data.toList from by rw [hT0]; exact (pl_ext s i e).symm)
                  have hTs := Lib.hid (show T.size < 4294967281 ∧ (i ≤ e → e ≤ s.size → i + T.data.toList.length = e) from by rw [hT0]; exact pl_tsize hs.out)
                  replace hie := Lib.hid hie
                  replace hes := Lib.hid hes
                  go_upto_region 10 with fail
                  rw [← hT0]
                  replace hT0 := Lib.hid hT0
                  obtain ⟨c1, hc1⟩ : ∃ c, c = Lib.contains T.data.toList [58, 32] := ⟨_, rfl⟩
                  obtain ⟨c2, hc2⟩ : ∃ c, c = Lib.hasSuffix T.data.toList [58] := ⟨_, rfl⟩
                  obtain ⟨c3, hc3⟩ : ∃ c, (T.toList == [45, 45, 45]) = c := ⟨_, rfl⟩
                  have hC := Lib.hid (show Calls Try.prog 85 #[.string T, .string ⟨#[58, 32]⟩] w fun e w' => e = .returned (.bool c1) ∧ w' = w from by rw [hc1]; exact Try.strings_Contains T ⟨#[58, 32]⟩ m w hTs.out.1 hm.out)
                  have hS := Lib.hid (show Calls Try.prog 86 #[.string T, .string ⟨#[58]⟩] w fun e w' => e = .returned (.bool c2) ∧ w' = w from by rw [hc2]; exact Try.strings_HasSuffix T ⟨#[58]⟩ w (pl_64 hTs.out.1))
                  replace hc1 := Lib.hid hc1
                  replace hc2 := Lib.hid hc2
                  cases c1 with
                  | true =>
                    have hv2 := Lib.hid (show r = none by rw [hb2.out, hT.out]; exact fin_bad (.inl (of_decide_eq_true hc1.out.symm)))
                    go_wp2_with (first | (go_at_call 85; refine hC.out.mono ?_; rintro e9 w2 ⟨rfl, hw2⟩; replace hw2 := hw2.symm; subst hw2) | (go_at_call 86; refine hS.out.mono ?_; rintro e9 w2 ⟨rfl, hw2⟩; replace hw2 := hw2.symm; subst hw2) | fail)
                    go_ret2
                    exact ⟨by rw [hv2.out]; rfl, rfl⟩
                  | false =>
                    cases c2 with
                    | true =>
                      have hv2 := Lib.hid (show r = none by rw [hb2.out, hT.out]; exact fin_bad (.inr (.inl hc2.out.symm)))
                      go_wp2_with (first | (go_at_call 85; refine hC.out.mono ?_; rintro e9 w2 ⟨rfl, hw2⟩; replace hw2 := hw2.symm; subst hw2) | (go_at_call 86; refine hS.out.mono ?_; rintro e9 w2 ⟨rfl, hw2⟩; replace hw2 := hw2.symm; subst hw2) | fail)
                      go_ret2
                      exact ⟨by rw [hv2.out]; rfl, rfl⟩
                    | false =>
                      cases c3 with
                      | true =>
                        have hv2 := Lib.hid (show r = none by rw [hb2.out, hT.out]; exact fin_bad (.inr (.inr (three_is hc3))))
                        go_wp2_with (first | (go_at_call 85; refine hC.out.mono ?_; rintro e9 w2 ⟨rfl, hw2⟩; replace hw2 := hw2.symm; subst hw2) | (go_at_call 86; refine hS.out.mono ?_; rintro e9 w2 ⟨rfl, hw2⟩; replace hw2 := hw2.symm; subst hw2) | fail)
                        go_ret2
                        exact ⟨by rw [hv2.out]; rfl, rfl⟩
                      | false =>
                        have hv2 := Lib.hid (show r = some T.data.toList by rw [hb2.out, hT.out]; exact fin_ok (of_decide_eq_false hc1.out.symm) hc2.out.symm (three_no hc3))
                        go_wp2_with (first | (go_at_call 85; refine hC.out.mono ?_; rintro e9 w2 ⟨rfl, hw2⟩; replace hw2 := hw2.symm; subst hw2) | (go_at_call 86; refine hS.out.mono ?_; rintro e9 w2 ⟨rfl, hw2⟩; replace hw2 := hw2.symm; subst hw2) | fail)
                        go_ret2
                        exact ⟨by rw [hv2.out, plain_some (hTs.out.2 hie.out hes.out)]; rfl, rfl⟩
              · have k1 : decide ((i : Int) < (e : Int)) = false := decide_eq_false (by omega)
                have hb2 := Lib.hid (show r = plainFin ((s.data.toList.drop i).take (e - i)) from by rw [hb, show e - i = 0 by omega]; rfl)
                replace hb := Lib.hid hb
                obtain ⟨T, hT0⟩ : ∃ T, T = s.extract i e := ⟨_, rfl⟩
                have hT := Lib.hid (show (s.data.toList.drop i).take (e - i) = T.data.toList from by rw [hT0]; exact (pl_ext s i e).symm)
                have hTs := Lib.hid (show T.size < 4294967281 ∧ (i ≤ e → e ≤ s.size → i + T.data.toList.length = e) from by rw [hT0]; exact pl_tsize hs.out)
                replace hie := Lib.hid hie
                replace hes := Lib.hid hes
                go_upto_region 10 with fail
                rw [← hT0]
                replace hT0 := Lib.hid hT0
                obtain ⟨c1, hc1⟩ : ∃ c, c = Lib.contains T.data.toList [58, 32] := ⟨_, rfl⟩
                obtain ⟨c2, hc2⟩ : ∃ c, c = Lib.hasSuffix T.data.toList [58] := ⟨_, rfl⟩
                obtain ⟨c3, hc3⟩ : ∃ c, (T.toList == [45, 45, 45]) = c := ⟨_, rfl⟩
                have hC := Lib.hid (show Calls Try.prog 85 #[.string T, .string ⟨#[58, 32]⟩] w fun e w' => e = .returned (.bool c1) ∧ w' = w from by rw [hc1]; exact Try.strings_Contains T ⟨#[58, 32]⟩ m w hTs.out.1 hm.out)
                have hS := Lib.hid (show Calls Try.prog 86 #[.string T, .string ⟨#[58]⟩] w fun e w' => e = .returned (.bool c2) ∧ w' = w from by rw [hc2]; exact Try.strings_HasSuffix T ⟨#[58]⟩ w (pl_64 hTs.out.1))
                replace hc1 := Lib.hid hc1
                replace hc2 := Lib.hid hc2
                cases c1 with
                | true =>
                  have hv2 := Lib.hid (show r = none by rw [hb2.out, hT.out]; exact fin_bad (.inl (of_decide_eq_true hc1.out.symm)))
                  go_wp2_with (first | (go_at_call 85; refine hC.out.mono ?_; rintro e9 w2 ⟨rfl, hw2⟩; replace hw2 := hw2.symm; subst hw2) | (go_at_call 86; refine hS.out.mono ?_; rintro e9 w2 ⟨rfl, hw2⟩; replace hw2 := hw2.symm; subst hw2) | fail)
                  go_ret2
                  exact ⟨by rw [hv2.out]; rfl, rfl⟩
                | false =>
                  cases c2 with
                  | true =>
                    have hv2 := Lib.hid (show r = none by rw [hb2.out, hT.out]; exact fin_bad (.inr (.inl hc2.out.symm)))
                    go_wp2_with (first | (go_at_call 85; refine hC.out.mono ?_; rintro e9 w2 ⟨rfl, hw2⟩; replace hw2 := hw2.symm; subst hw2) | (go_at_call 86; refine hS.out.mono ?_; rintro e9 w2 ⟨rfl, hw2⟩; replace hw2 := hw2.symm; subst hw2) | fail)
                    go_ret2
                    exact ⟨by rw [hv2.out]; rfl, rfl⟩
                  | false =>
                    cases c3 with
                    | true =>
                      have hv2 := Lib.hid (show r = none by rw [hb2.out, hT.out]; exact fin_bad (.inr (.inr (three_is hc3))))
                      go_wp2_with (first | (go_at_call 85; refine hC.out.mono ?_; rintro e9 w2 ⟨rfl, hw2⟩; replace hw2 := hw2.symm; subst hw2) | (go_at_call 86; refine hS.out.mono ?_; rintro e9 w2 ⟨rfl, hw2⟩; replace hw2 := hw2.symm; subst hw2) | fail)
                      go_ret2
                      exact ⟨by rw [hv2.out]; rfl, rfl⟩
                    | false =>
                      have hv2 := Lib.hid (show r = some T.data.toList by rw [hb2.out, hT.out]; exact fin_ok (of_decide_eq_false hc1.out.symm) hc2.out.symm (three_no hc3))
                      go_wp2_with (first | (go_at_call 85; refine hC.out.mono ?_; rintro e9 w2 ⟨rfl, hw2⟩; replace hw2 := hw2.symm; subst hw2) | (go_at_call 86; refine hS.out.mono ?_; rintro e9 w2 ⟨rfl, hw2⟩; replace hw2 := hw2.symm; subst hw2) | fail)
                      go_ret2
                      exact ⟨by rw [hv2.out, plain_some (hTs.out.2 hie.out hes.out)]; rfl, rfl⟩
      · have k1 : ((i : Int) + 1 == (s.size : Int)) = true := by rw [beq_iff_eq]; omega
        have hv := Lib.hid (show r = none by rw [hr, hdr, drop_no s hl2]; exact plain_bad2 e45.out (.inl rfl))
        replace hn := Lib.hid hn
        replace h0 := Lib.hid h0
        replace hib := Lib.hid hib
        replace hx := Lib.hid hx
        replace hr := Lib.hid hr
        replace hdr := Lib.hid hdr
        replace hkk := Lib.hid hkk
        go_enter Try.func73, Try.ntmps73
        go_wp2_with (first
          | (go_at_call 82; refine hIB.out.mono ?_; rintro e w2 ⟨rfl, hw2⟩; replace hw2 := hw2.symm; subst hw2)
          | fail)
        go_ret2
        exact ⟨by rw [hv.out]; rfl, rfl⟩
    | false =>
      have n45 := Lib.hid (pl_ne hx (n := 45) (by decide) q45)
      have hv : r = plainFin (rtrim (plainCut (s.data.toList.drop i))) := by rw [hr, hdr]; exact plain_go hn (fun h => n45.out h.1)
      replace hn := Lib.hid hn
      replace h0 := Lib.hid h0
      replace hib := Lib.hid hib
      replace hx := Lib.hid hx
      replace hr := Lib.hid hr
      replace hdr := Lib.hid hdr
      by_cases hk : 0 ≤ k
      · have qk : decide (0 ≤ k) = true := decide_eq_true hk
        obtain ⟨e0, he0⟩ : ∃ e0, e0 = i + k.toNat := ⟨_, rfl⟩
        obtain ⟨z1, z2, z3, z4⟩ := pl_cut hs.out hi hkk he0 hk
        rw [z4] at hv
        replace hkk := Lib.hid hkk
        replace he0 := Lib.hid he0
        replace z1 := Lib.hid z1
        replace z2 := Lib.hid z2
        go_enter Try.func73, Try.ntmps73
        go_wp2_with (first
          | (go_at_call 82; refine hIB.out.mono ?_; rintro e w2 ⟨rfl, hw2⟩; replace hw2 := hw2.symm; subst hw2)
          | (go_at_call 84; refine hIX.out.mono ?_; rintro e w2 ⟨rfl, hw2⟩; replace hw2 := hw2.symm; subst hw2)
          | fail)
        go_loopg [6] (e0 - i + 1) (fun gg ev wr => ∃ e : Nat, gg = e - i + 1 ∧ ev = .int .i64 e ∧ i ≤ e ∧ e ≤ s.size ∧ r = plainFin (rtrim ((s.data.toList.drop i).take (e - i))) ∧ w = wr)
        case atStart => exact ⟨e0, rfl, by first | rfl | rw [z3], z1.out, z2.out, hv, rfl⟩
        case round =>
          obtain ⟨e, rfl, rfl, hie, hes, hb, rfl⟩ := hrel
          by_cases hlt : i < e
          · obtain ⟨k0, k1, k2, k3, k4, k5⟩ := pl_nums hs.out hlt hes
            obtain ⟨y, hy⟩ : ∃ y : Int, y = (s[e - 1].toNat : Int) := ⟨_, rfl⟩
            have hy' : (s[e - 1].toNat : Int) = y := hy.symm
            have hat := pl_at s hlt hes
            cases q32 : (y == 32) with
            | true =>
              have e32 := pl_is hy (n := 32) (by decide) q32
              have hb2 := Lib.hid (show r = plainFin (rtrim ((s.data.toList.drop i).take (e - 1 - i))) from by rw [hb, pl_len hlt, rtrim_down (hat.trans (congrArg some e32))])
              replace e32 := Lib.hid e32
              replace hb := Lib.hid hb
              replace hat := Lib.hid hat
              replace hy := Lib.hid hy
              replace hie := Lib.hid hie
              replace hes := Lib.hid hes
              go_wp2
              go_roundg (e - 1 - i + 1)
              case rel => exact ⟨e - 1, rfl, (by rw [k1]; exact pl_idx hlt), pl_le hlt, pl_le2 hes.out, hb2.out, rfl⟩
              case measure => exact pl_down hlt
            | false =>
              have e32 := pl_ne hy (n := 32) (by decide) q32
              have hb2 := Lib.hid (show r = plainFin ((s.data.toList.drop i).take (e - i)) from by rw [hb, pl_len hlt, rtrim_stop hat e32])
              replace e32 := Lib.hid e32
              replace hb := Lib.hid hb
              replace hat := Lib.hid hat
              replace hy := Lib.hid hy
              obtain ⟨T, hT0⟩ : ∃ T, T = s.extract i e := ⟨_, rfl⟩
              have hT := Lib.hid (show (s.data.toList.drop i).take (e - i) = T.data.toList from by rw [hT0]; exact (pl_ext s i e).symm)
              have hTs := Lib.hid (show T.size < 4294967281 ∧ (i ≤ e → e ≤ s.size → i + T.data.toList.length = e) from by rw [hT0]; exact pl_tsize hs.out)
              replace hie := Lib.hid hie
              replace hes := Lib.hid hes
              go_upto_region 10 with fail
              rw [← hT0]
              replace hT0 := Lib.hid hT0
              obtain ⟨c1, hc1⟩ : ∃ c, c = Lib.contains T.data.toList [58, 32] := ⟨_, rfl⟩
              obtain ⟨c2, hc2⟩ : ∃ c, c = Lib.hasSuffix T.data.toList [58] := ⟨_, rfl⟩
              obtain ⟨c3, hc3⟩ : ∃ c, (T.toList == [45, 45, 45]) = c := ⟨_, rfl⟩
              have hC := Lib.hid (show Calls Try.prog 85 #[.string T, .string ⟨#[58, 32]⟩] w fun e w' => e = .returned (.bool c1) ∧ w' = w from by rw [hc1]; exact Try.strings_Contains T ⟨#[58, 32]⟩ m w hTs.out.1 hm.out)
              have hS := Lib.hid (show Calls Try.prog 86 #[.string T, .string ⟨#[58]⟩] w fun e w' => e = .returned (.bool c2) ∧ w' = w from by rw [hc2]; exact Try.strings_HasSuffix T ⟨#[58]⟩ w (pl_64 hTs.out.1))
              replace hc1 := Lib.hid hc1
              replace hc2 := Lib.hid hc2
              cases c1 with
              | true =>
                have hv2 := Lib.hid (show r = none by rw [hb2.out, hT.out]; exact fin_bad (.inl (of_decide_eq_true hc1.out.symm)))
                go_wp2_with (first | (go_at_call 85; refine hC.out.mono ?_; rintro e9 w2 ⟨rfl, hw2⟩; replace hw2 := hw2.symm; subst hw2) | (go_at_call 86; refine hS.out.mono ?_; rintro e9 w2 ⟨rfl, hw2⟩; replace hw2 := hw2.symm; subst hw2) | fail)
                go_ret2
                exact ⟨by rw [hv2.out]; rfl, rfl⟩
              | false =>
                cases c2 with
                | true =>
                  have hv2 := Lib.hid (show r = none by rw [hb2.out, hT.out]; exact fin_bad (.inr (.inl hc2.out.symm)))
                  go_wp2_with (first | (go_at_call 85; refine hC.out.mono ?_; rintro e9 w2 ⟨rfl, hw2⟩; replace hw2 := hw2.symm; subst hw2) | (go_at_call 86; refine hS.out.mono ?_; rintro e9 w2 ⟨rfl, hw2⟩; replace hw2 := hw2.symm; subst hw2) | fail)
                  go_ret2
                  exact ⟨by rw [hv2.out]; rfl, rfl⟩
                | false =>
                  cases c3 with
                  | true =>
                    have hv2 := Lib.hid (show r = none by rw [hb2.out, hT.out]; exact fin_bad (.inr (.inr (three_is hc3))))
                    go_wp2_with (first | (go_at_call 85; refine hC.out.mono ?_; rintro e9 w2 ⟨rfl, hw2⟩; replace hw2 := hw2.symm; subst hw2) | (go_at_call 86; refine hS.out.mono ?_; rintro e9 w2 ⟨rfl, hw2⟩; replace hw2 := hw2.symm; subst hw2) | fail)
                    go_ret2
                    exact ⟨by rw [hv2.out]; rfl, rfl⟩
                  | false =>
                    have hv2 := Lib.hid (show r = some T.data.toList by rw [hb2.out, hT.out]; exact fin_ok (of_decide_eq_false hc1.out.symm) hc2.out.symm (three_no hc3))
                    go_wp2_with (first | (go_at_call 85; refine hC.out.mono ?_; rintro e9 w2 ⟨rfl, hw2⟩; replace hw2 := hw2.symm; subst hw2) | (go_at_call 86; refine hS.out.mono ?_; rintro e9 w2 ⟨rfl, hw2⟩; replace hw2 := hw2.symm; subst hw2) | fail)
                    go_ret2
                    exact ⟨by rw [hv2.out, plain_some (hTs.out.2 hie.out hes.out)]; rfl, rfl⟩
          · have k1 : decide ((i : Int) < (e : Int)) = false := decide_eq_false (by omega)
            have hb2 := Lib.hid (show r = plainFin ((s.data.toList.drop i).take (e - i)) from by rw [hb, show e - i = 0 by omega]; rfl)
            replace hb := Lib.hid hb
            obtain ⟨T, hT0⟩ : ∃ T, T = s.extract i e := ⟨_, rfl⟩
            have hT := Lib.hid (show (s.data.toList.drop i).take (e - i) = T.data.toList from by rw [hT0]; exact (pl_ext s i e).symm)
            have hTs := Lib.hid (show T.size < 4294967281 ∧ (i ≤ e → e ≤ s.size → i + T.data.toList.length = e) from by rw [hT0]; exact pl_tsize hs.out)
            replace hie := Lib.hid hie
            replace hes := Lib.hid hes
            go_upto_region 10 with fail
            rw [← hT0]
            replace hT0 := Lib.hid hT0
            obtain ⟨c1, hc1⟩ : ∃ c, c = Lib.contains T.data.toList [58, 32] := ⟨_, rfl⟩
            obtain ⟨c2, hc2⟩ : ∃ c, c = Lib.hasSuffix T.data.toList [58] := ⟨_, rfl⟩
            obtain ⟨c3, hc3⟩ : ∃ c, (T.toList == [45, 45, 45]) = c := ⟨_, rfl⟩
            have hC := Lib.hid (show Calls Try.prog 85 #[.string T, .string ⟨#[58, 32]⟩] w fun e w' => e = .returned (.bool c1) ∧ w' = w from by rw [hc1]; exact Try.strings_Contains T ⟨#[58, 32]⟩ m w hTs.out.1 hm.out)
            have hS := Lib.hid (show Calls Try.prog 86 #[.string T, .string ⟨#[58]⟩] w fun e w' => e = .returned (.bool c2) ∧ w' = w from by rw [hc2]; exact Try.strings_HasSuffix T ⟨#[58]⟩ w (pl_64 hTs.out.1))
            replace hc1 := Lib.hid hc1
            replace hc2 := Lib.hid hc2
            cases c1 with
            | true =>
              have hv2 := Lib.hid (show r = none by rw [hb2.out, hT.out]; exact fin_bad (.inl (of_decide_eq_true hc1.out.symm)))
              go_wp2_with (first | (go_at_call 85; refine hC.out.mono ?_; rintro e9 w2 ⟨rfl, hw2⟩; replace hw2 := hw2.symm; subst hw2) | (go_at_call 86; refine hS.out.mono ?_; rintro e9 w2 ⟨rfl, hw2⟩; replace hw2 := hw2.symm; subst hw2) | fail)
              go_ret2
              exact ⟨by rw [hv2.out]; rfl, rfl⟩
            | false =>
              cases c2 with
              | true =>
                have hv2 := Lib.hid (show r = none by rw [hb2.out, hT.out]; exact fin_bad (.inr (.inl hc2.out.symm)))
                go_wp2_with (first | (go_at_call 85; refine hC.out.mono ?_; rintro e9 w2 ⟨rfl, hw2⟩; replace hw2 := hw2.symm; subst hw2) | (go_at_call 86; refine hS.out.mono ?_; rintro e9 w2 ⟨rfl, hw2⟩; replace hw2 := hw2.symm; subst hw2) | fail)
                go_ret2
                exact ⟨by rw [hv2.out]; rfl, rfl⟩
              | false =>
                cases c3 with
                | true =>
                  have hv2 := Lib.hid (show r = none by rw [hb2.out, hT.out]; exact fin_bad (.inr (.inr (three_is hc3))))
                  go_wp2_with (first | (go_at_call 85; refine hC.out.mono ?_; rintro e9 w2 ⟨rfl, hw2⟩; replace hw2 := hw2.symm; subst hw2) | (go_at_call 86; refine hS.out.mono ?_; rintro e9 w2 ⟨rfl, hw2⟩; replace hw2 := hw2.symm; subst hw2) | fail)
                  go_ret2
                  exact ⟨by rw [hv2.out]; rfl, rfl⟩
                | false =>
                  have hv2 := Lib.hid (show r = some T.data.toList by rw [hb2.out, hT.out]; exact fin_ok (of_decide_eq_false hc1.out.symm) hc2.out.symm (three_no hc3))
                  go_wp2_with (first | (go_at_call 85; refine hC.out.mono ?_; rintro e9 w2 ⟨rfl, hw2⟩; replace hw2 := hw2.symm; subst hw2) | (go_at_call 86; refine hS.out.mono ?_; rintro e9 w2 ⟨rfl, hw2⟩; replace hw2 := hw2.symm; subst hw2) | fail)
                  go_ret2
                  exact ⟨by rw [hv2.out, plain_some (hTs.out.2 hie.out hes.out)]; rfl, rfl⟩
      · have qk : decide (0 ≤ k) = false := decide_eq_false hk
        have z4 := pl_nocut hkk hk
        rw [z4] at hv
        replace hkk := Lib.hid hkk
        replace hk := Lib.hid hk
        go_enter Try.func73, Try.ntmps73
        go_wp2_with (first
          | (go_at_call 82; refine hIB.out.mono ?_; rintro e w2 ⟨rfl, hw2⟩; replace hw2 := hw2.symm; subst hw2)
          | (go_at_call 84; refine hIX.out.mono ?_; rintro e w2 ⟨rfl, hw2⟩; replace hw2 := hw2.symm; subst hw2)
          | fail)
        go_loopg [6] (s.size - i + 1) (fun gg ev wr => ∃ e : Nat, gg = e - i + 1 ∧ ev = .int .i64 e ∧ i ≤ e ∧ e ≤ s.size ∧ r = plainFin (rtrim ((s.data.toList.drop i).take (e - i))) ∧ w = wr)
        case atStart => exact ⟨s.size, rfl, rfl, Nat.le_of_lt hi, Nat.le_refl _, hv, rfl⟩
        case round =>
          obtain ⟨e, rfl, rfl, hie, hes, hb, rfl⟩ := hrel
          by_cases hlt : i < e
          · obtain ⟨k0, k1, k2, k3, k4, k5⟩ := pl_nums hs.out hlt hes
            obtain ⟨y, hy⟩ : ∃ y : Int, y = (s[e - 1].toNat : Int) := ⟨_, rfl⟩
            have hy' : (s[e - 1].toNat : Int) = y := hy.symm
            have hat := pl_at s hlt hes
            cases q32 : (y == 32) with
            | true =>
              have e32 := pl_is hy (n := 32) (by decide) q32
              have hb2 := Lib.hid (show r = plainFin (rtrim ((s.data.toList.drop i).take (e - 1 - i))) from by rw [hb, pl_len hlt, rtrim_down (hat.trans (congrArg some e32))])
              replace e32 := Lib.hid e32
              replace hb := Lib.hid hb
              replace hat := Lib.hid hat
              replace hy := Lib.hid hy
              replace hie := Lib.hid hie
              replace hes := Lib.hid hes
              go_wp2
              go_roundg (e - 1 - i + 1)
              case rel => exact ⟨e - 1, rfl, (by rw [k1]; exact pl_idx hlt), pl_le hlt, pl_le2 hes.out, hb2.out, rfl⟩
              case measure => exact pl_down hlt
            | false =>
              have e32 := pl_ne hy (n := 32) (by decide) q32
              have hb2 := Lib.hid (show r = plainFin ((s.data.toList.drop i).take (e - i)) from by rw [hb, pl_len hlt, rtrim_stop hat e32])
              replace e32 := Lib.hid e32
              replace hb := Lib.hid hb
              replace hat := Lib.hid hat
              replace hy := Lib.hid hy
              obtain ⟨T, hT0⟩ : ∃ T, T = s.extract i e := ⟨_, rfl⟩
              have hT := Lib.hid (show (s.data.toList.drop i).take (e - i) = T.data.toList from by rw [hT0]; exact (pl_ext s i e).symm)
              have hTs := Lib.hid (show T.size < 4294967281 ∧ (i ≤ e → e ≤ s.size → i + T.data.toList.length = e) from by rw [hT0]; exact pl_tsize hs.out)
              replace hie := Lib.hid hie
              replace hes := Lib.hid hes
              go_upto_region 10 with fail
              rw [← hT0]
              replace hT0 := Lib.hid hT0
              obtain ⟨c1, hc1⟩ : ∃ c, c = Lib.contains T.data.toList [58, 32] := ⟨_, rfl⟩
              obtain ⟨c2, hc2⟩ : ∃ c, c = Lib.hasSuffix T.data.toList [58] := ⟨_, rfl⟩
              obtain ⟨c3, hc3⟩ : ∃ c, (T.toList == [45, 45, 45]) = c := ⟨_, rfl⟩
              have hC := Lib.hid (show Calls Try.prog 85 #[.string T, .string ⟨#[58, 32]⟩] w fun e w' => e = .returned (.bool c1) ∧ w' = w from by rw [hc1]; exact Try.strings_Contains T ⟨#[58, 32]⟩ m w hTs.out.1 hm.out)
              have hS := Lib.hid (show Calls Try.prog 86 #[.string T, .string ⟨#[58]⟩] w fun e w' => e = .returned (.bool c2) ∧ w' = w from by rw [hc2]; exact Try.strings_HasSuffix T ⟨#[58]⟩ w (pl_64 hTs.out.1))
              replace hc1 := Lib.hid hc1
              replace hc2 := Lib.hid hc2
              cases c1 with
              | true =>
                have hv2 := Lib.hid (show r = none by rw [hb2.out, hT.out]; exact fin_bad (.inl (of_decide_eq_true hc1.out.symm)))
                go_wp2_with (first | (go_at_call 85; refine hC.out.mono ?_; rintro e9 w2 ⟨rfl, hw2⟩; replace hw2 := hw2.symm; subst hw2) | (go_at_call 86; refine hS.out.mono ?_; rintro e9 w2 ⟨rfl, hw2⟩; replace hw2 := hw2.symm; subst hw2) | fail)
                go_ret2
                exact ⟨by rw [hv2.out]; rfl, rfl⟩
              | false =>
                cases c2 with
                | true =>
                  have hv2 := Lib.hid (show r = none by rw [hb2.out, hT.out]; exact fin_bad (.inr (.inl hc2.out.symm)))
                  go_wp2_with (first | (go_at_call 85; refine hC.out.mono ?_; rintro e9 w2 ⟨rfl, hw2⟩; replace hw2 := hw2.symm; subst hw2) | (go_at_call 86; refine hS.out.mono ?_; rintro e9 w2 ⟨rfl, hw2⟩; replace hw2 := hw2.symm; subst hw2) | fail)
                  go_ret2
                  exact ⟨by rw [hv2.out]; rfl, rfl⟩
                | false =>
                  cases c3 with
                  | true =>
                    have hv2 := Lib.hid (show r = none by rw [hb2.out, hT.out]; exact fin_bad (.inr (.inr (three_is hc3))))
                    go_wp2_with (first | (go_at_call 85; refine hC.out.mono ?_; rintro e9 w2 ⟨rfl, hw2⟩; replace hw2 := hw2.symm; subst hw2) | (go_at_call 86; refine hS.out.mono ?_; rintro e9 w2 ⟨rfl, hw2⟩; replace hw2 := hw2.symm; subst hw2) | fail)
                    go_ret2
                    exact ⟨by rw [hv2.out]; rfl, rfl⟩
                  | false =>
                    have hv2 := Lib.hid (show r = some T.data.toList by rw [hb2.out, hT.out]; exact fin_ok (of_decide_eq_false hc1.out.symm) hc2.out.symm (three_no hc3))
                    go_wp2_with (first | (go_at_call 85; refine hC.out.mono ?_; rintro e9 w2 ⟨rfl, hw2⟩; replace hw2 := hw2.symm; subst hw2) | (go_at_call 86; refine hS.out.mono ?_; rintro e9 w2 ⟨rfl, hw2⟩; replace hw2 := hw2.symm; subst hw2) | fail)
                    go_ret2
                    exact ⟨by rw [hv2.out, plain_some (hTs.out.2 hie.out hes.out)]; rfl, rfl⟩
          · have k1 : decide ((i : Int) < (e : Int)) = false := decide_eq_false (by omega)
            have hb2 := Lib.hid (show r = plainFin ((s.data.toList.drop i).take (e - i)) from by rw [hb, show e - i = 0 by omega]; rfl)
            replace hb := Lib.hid hb
            obtain ⟨T, hT0⟩ : ∃ T, T = s.extract i e := ⟨_, rfl⟩
            have hT := Lib.hid (show (s.data.toList.drop i).take (e - i) = T.data.toList from by rw [hT0]; exact (pl_ext s i e).symm)
            have hTs := Lib.hid (show T.size < 4294967281 ∧ (i ≤ e → e ≤ s.size → i + T.data.toList.length = e) from by rw [hT0]; exact pl_tsize hs.out)
            replace hie := Lib.hid hie
            replace hes := Lib.hid hes
            go_upto_region 10 with fail
            rw [← hT0]
            replace hT0 := Lib.hid hT0
            obtain ⟨c1, hc1⟩ : ∃ c, c = Lib.contains T.data.toList [58, 32] := ⟨_, rfl⟩
            obtain ⟨c2, hc2⟩ : ∃ c, c = Lib.hasSuffix T.data.toList [58] := ⟨_, rfl⟩
            obtain ⟨c3, hc3⟩ : ∃ c, (T.toList == [45, 45, 45]) = c := ⟨_, rfl⟩
            have hC := Lib.hid (show Calls Try.prog 85 #[.string T, .string ⟨#[58, 32]⟩] w fun e w' => e = .returned (.bool c1) ∧ w' = w from by rw [hc1]; exact Try.strings_Contains T ⟨#[58, 32]⟩ m w hTs.out.1 hm.out)
            have hS := Lib.hid (show Calls Try.prog 86 #[.string T, .string ⟨#[58]⟩] w fun e w' => e = .returned (.bool c2) ∧ w' = w from by rw [hc2]; exact Try.strings_HasSuffix T ⟨#[58]⟩ w (pl_64 hTs.out.1))
            replace hc1 := Lib.hid hc1
            replace hc2 := Lib.hid hc2
            cases c1 with
            | true =>
              have hv2 := Lib.hid (show r = none by rw [hb2.out, hT.out]; exact fin_bad (.inl (of_decide_eq_true hc1.out.symm)))
              go_wp2_with (first | (go_at_call 85; refine hC.out.mono ?_; rintro e9 w2 ⟨rfl, hw2⟩; replace hw2 := hw2.symm; subst hw2) | (go_at_call 86; refine hS.out.mono ?_; rintro e9 w2 ⟨rfl, hw2⟩; replace hw2 := hw2.symm; subst hw2) | fail)
              go_ret2
              exact ⟨by rw [hv2.out]; rfl, rfl⟩
            | false =>
              cases c2 with
              | true =>
                have hv2 := Lib.hid (show r = none by rw [hb2.out, hT.out]; exact fin_bad (.inr (.inl hc2.out.symm)))
                go_wp2_with (first | (go_at_call 85; refine hC.out.mono ?_; rintro e9 w2 ⟨rfl, hw2⟩; replace hw2 := hw2.symm; subst hw2) | (go_at_call 86; refine hS.out.mono ?_; rintro e9 w2 ⟨rfl, hw2⟩; replace hw2 := hw2.symm; subst hw2) | fail)
                go_ret2
                exact ⟨by rw [hv2.out]; rfl, rfl⟩
              | false =>
                cases c3 with
                | true =>
                  have hv2 := Lib.hid (show r = none by rw [hb2.out, hT.out]; exact fin_bad (.inr (.inr (three_is hc3))))
                  go_wp2_with (first | (go_at_call 85; refine hC.out.mono ?_; rintro e9 w2 ⟨rfl, hw2⟩; replace hw2 := hw2.symm; subst hw2) | (go_at_call 86; refine hS.out.mono ?_; rintro e9 w2 ⟨rfl, hw2⟩; replace hw2 := hw2.symm; subst hw2) | fail)
                  go_ret2
                  exact ⟨by rw [hv2.out]; rfl, rfl⟩
                | false =>
                  have hv2 := Lib.hid (show r = some T.data.toList by rw [hb2.out, hT.out]; exact fin_ok (of_decide_eq_false hc1.out.symm) hc2.out.symm (three_no hc3))
                  go_wp2_with (first | (go_at_call 85; refine hC.out.mono ?_; rintro e9 w2 ⟨rfl, hw2⟩; replace hw2 := hw2.symm; subst hw2) | (go_at_call 86; refine hS.out.mono ?_; rintro e9 w2 ⟨rfl, hw2⟩; replace hw2 := hw2.symm; subst hw2) | fail)
                  go_ret2
                  exact ⟨by rw [hv2.out, plain_some (hTs.out.2 hie.out hes.out)]; rfl, rfl⟩
end Go.Proofs.Ytcnjmkjfgghgoaa
end
