/- Quote: a text between double quotes. -/
import Derived.Test.YtabgckjokniooaaLap
import Derived.Test.YtabgckjokniooaaLqt
namespace Go.Proofs.Ytabgckjokniooaa
open Go.RowKit Go.Ln Go.Mp Go.Tr
set_option linter.unusedVariables false
set_option maxRecDepth 100000
set_option maxHeartbeats 4000000
theorem run_append_new (w : World) (base : Nat) (i : TypeInfo) (hi : Try.prog.info? 5 = some i) (hz : i.zero = some (.int .u8 0)) (hsize : i.size = 1) (hby : i.bytes = 1)
    (v : Value) (a : List UInt8) (n : Nat) (hn : n = a.length) (hown : w.ownsRow base 5 1 v n (vbs a)) (us : List UInt8) (m : Nat) (hm : m = us.length) (C : Array Value) (hC : C = (vbs us).toArray)
    (hb : n + m ≤ 140737488355328) (hbase : base ≤ w.heap.size) (c : Nat) (ty : TypeId) :
    ∃ v' w', (Builtin.append_ #[22, 22] ty #[v, .slice (some ⟨w.heap.size, 0, none⟩) m c]).run Try.prog (w.alloc (.cells C 5)) = .ok v' w' ∧ w'.ownsRow base 5 1 v' (n + m) (vbs (a ++ us)) ∧ w.grownBy w' v.ownBlock := by
  subst hC
  subst hn
  subst hm
  obtain ⟨v', w', hr, q1, q2, q3, q4⟩ := run_append_own_at (P := Try.prog) (w.alloc (.cells (vbs us).toArray 5)) base 22 ty 5 i (.int .u8 0) 1 1 Try.underlying22 hi hz hsize hby rfl (by decide) v a.length (vbs a) (hown.alloc _) ⟨w.heap.size, 0, none⟩ us.length c (vbs us) (by rw [vbs_length, Nat.mul_one]) (new_cells w (vbs us) 5) (fun u hu => by
    obtain ⟨c, _, rfl⟩ := List.mem_map.1 hu
    rfl) (by unfold maxLen; omega) (by omega) (by simp; omega)
  exact ⟨v', w', hr, by rw [show vbs (a ++ us) = vbs a ++ vbs us by simp [vbs]]; exact q1, grownBy_alloc_left q2⟩
theorem wp_append_new {w : World} {ops : Array Oper} {rest : List Oper} {o : Oper} {act : Act} {Q : Exit → Act → World → Prop} {C : Array Value} (hgd : o.guard = none) (s x : Operand)
    (ho : o.op = .call { callee := .builtin .append, args := #[s, x], argTypes := #[22, 22] }) (base : Nat) (i : TypeInfo) (hi : Try.prog.info? 5 = some i) (hz : i.zero = some (.int .u8 0)) (hsize : i.size = 1) (hby : i.bytes = 1)
    (v : Value) (a : List UInt8) (n : Nat) (hn : n = a.length) (hs : act.eval s = v) (hown : w.ownsRow base 5 1 v n (vbs a)) (us : List UInt8) (m c : Nat) (hx : act.eval x = .slice (some ⟨w.heap.size, 0, none⟩) m c) (hm : m = us.length) (hC : C = (vbs us).toArray)
    (hb : n + m ≤ 140737488355328) (hbase : base ≤ w.heap.size)
    (h : ∀ v' w', w'.ownsRow base 5 1 v' (n + m) (vbs (a ++ us)) → w.grownBy w' v.ownBlock → wpList Try.prog ops Q rest (act.put o.dst v') w') : wpList Try.prog ops Q (o :: rest) act (w.alloc (.cells C 5)) :=
  wpList_plain hgd fun _ hK => by
    obtain ⟨v', w', hr, h2, h3⟩ := run_append_new w base i hi hz hsize hby v a n hn hown us m hm C hC hb hbase c o.type
    unfold Oper.wp execOp
    simp only [ho, resolve, invoke, builtin, Sem.run_bind, Sem.run_pure, Result.andThen_ok, List.map_toArray, List.map_cons, List.map_nil, hs, hx, hr]
    exact hK _ _ (h v' w' h2 h3)
theorem step_append_new {w : World} {ops : Array Oper} {o : Oper} {act : Act} {K : Act → World → Prop} {Q : Exit → Act → World → Prop} {E : Prop} {C : Array Value} (hgd : o.guard = none) (s x : Operand)
    (ho : o.op = .call { callee := .builtin .append, args := #[s, x], argTypes := #[22, 22] }) (base : Nat) (i : TypeInfo) (hi : Try.prog.info? 5 = some i) (hz : i.zero = some (.int .u8 0)) (hsize : i.size = 1) (hby : i.bytes = 1)
    (v : Value) (a : List UInt8) (n : Nat) (hn : n = a.length) (hs : act.eval s = v) (hown : w.ownsRow base 5 1 v n (vbs a)) (us : List UInt8) (m c : Nat) (hx : act.eval x = .slice (some ⟨w.heap.size, 0, none⟩) m c) (hm : m = us.length) (hC : C = (vbs us).toArray)
    (hb : n + m ≤ 140737488355328) (hbase : base ≤ w.heap.size)
    (h : ∀ v' w', w'.ownsRow base 5 1 v' (n + m) (vbs (a ++ us)) → w.grownBy w' v.ownBlock → K (act.put o.dst v') w') :
    if Region.wanted o (yielded ops act.tmps) = true then Oper.wp Try.prog o act (w.alloc (.cells C 5)) K Q else E := by
  have hw : Region.wanted o (yielded ops act.tmps) = true := by simp [Region.wanted, hgd]
  rw [if_pos hw]
  obtain ⟨v', w', hr, h2, h3⟩ := run_append_new w base i hi hz hsize hby v a n hn hown us m hm C hC hb hbase c o.type
  unfold Oper.wp execOp
  simp only [ho, resolve, invoke, builtin, Sem.run_bind, Sem.run_pure, Result.andThen_ok, List.map_toArray, List.map_cons, List.map_nil, hs, hx, hr]
  exact h v' w' h2 h3
theorem nn_wrapC {k m : Nat} (hk : k < m) (hm : m ≤ 140737488351232) : wrap64 ((k : Int) + 1) = ((k + 1 : Nat) : Int) := by unfold wrap64; omega
/-- What has been written. -/
def qpre (s : ByteArray) (i : Nat) : List UInt8 := 34 :: (s.data.toList.take i).flatMap esc
theorem qpre_next {s : ByteArray} {i : Nat} (h : i < s.size) : qpre s (i + 1) = qpre s i ++ esc s[i] := by
  unfold qpre
  have e : s.data.toList.take (i + 1) = s.data.toList.take i ++ [s[i]] := take_snoc (at_data s h)
  rw [e, List.flatMap_append]; simp
theorem qpre_len (s : ByteArray) (i : Nat) : (qpre s i).length ≤ 4 * i + 1 := by
  unfold qpre
  have h := quote_len (s.data.toList.take i)
  unfold quoteL at h
  simp only [List.length_cons, List.length_append, List.length_nil, List.length_take] at h ⊢
  omega
theorem esc1 {c : UInt8} (h : c = 34 ∨ c = 92) : esc c = [92, c] := by unfold esc; rw [if_pos h]
theorem esc2 {c : UInt8} (h : c = 10) : esc c = [92, 110] := by subst h; decide
theorem esc3 {c : UInt8} (h : c = 9) : esc c = [92, 116] := by subst h; decide
theorem esc4 {c : UInt8} (h0 : ¬ c = 34) (h1 : ¬ c = 92) (h2 : ¬ c = 10) (h3 : ¬ c = 9) (h : c < 32 ∨ c = 127) : esc c = [92, 120, dig (c.toNat / 16), dig (c.toNat % 16)] := by
  unfold esc; rw [if_neg (by simp [h0, h1]), if_neg h2, if_neg h3, if_pos h]
theorem esc5 {c : UInt8} (h0 : ¬ c = 34) (h1 : ¬ c = 92) (h2 : ¬ c = 10) (h3 : ¬ c = 9) (h : ¬ (c < 32 ∨ c = 127)) : esc c = [c] := by
  unfold esc; rw [if_neg (by simp [h0, h1]), if_neg h2, if_neg h3, if_neg h]
/-- What holds at a round's head. -/
structure QSt (s : ByteArray) (w : World) (i : Nat) (v : Value) (n : Nat) (wx : World) : Prop where
  row : wx.ownsRow w.heap.size 5 1 v n (vbs (qpre s i))
  len : n = (qpre s i).length
  t : Tch No w wx
theorem QSt.next {s : ByteArray} {w : World} {i : Nat} {v : Value} {n : Nat} {wx : World} (h : QSt s w i v n wx) (hi : i < s.size) {us : List UInt8} (hu : esc s[i] = us) {v' : Value} {m : Nat} (hm : m = us.length) {w' : World} (hr : w'.ownsRow w.heap.size 5 1 v' (n + m) (vbs (qpre s i ++ us))) (hg : wx.grownBy w' v.ownBlock) : QSt s w (i + 1) v' (n + m) w' where
  row := by rw [qpre_next hi, hu]; exact hr
  len := by rw [qpre_next hi, hu, List.length_append, h.len, hm]
  t := h.t.trans (Tch.grown (S := fun k => v.ownBlock = some k) hg (fun k hk => .inl hk)) (fun k hk => .inr (ownsRow_ge h.row hk).1)
theorem row_string2 {w : World} {B n : Nat} {v : Value} {a : List UInt8} (h : w.ownsRow B 5 1 v n (vbs a)) (hn : n = a.length) : (convert 22 9 v).run Try.prog w = .ok (.string ⟨a.toArray⟩) w := by subst hn; exact row_string h
theorem and_all : ∀ n : Fin 256, bits .and .u8 (n.val : Int) 15 = (n.val : Int) % 16 := by decide +kernel
theorem and15 {c : UInt8} {x : Int} (hx : x = (c.toNat : Int)) : bits .and .u8 x 15 = x % 16 := by rw [hx]; exact and_all ⟨c.toNat, c.toNat_lt⟩
theorem Tp_drew {w w' : World} {row : Option Nat} (h : w.drew.grownBy w' row) : w.grownBy w' row := ⟨h.os, h.tape, h.output, h.size, h.block⟩
theorem dig_at {k : Nat} (h : k < (⟨#[48, 49, 50, 51, 52, 53, 54, 55, 56, 57, 97, 98, 99, 100, 101, 102]⟩ : ByteArray).size) : (⟨#[48, 49, 50, 51, 52, 53, 54, 55, 56, 57, 97, 98, 99, 100, 101, 102]⟩ : ByteArray)[k] = dig k := by
  unfold dig
  rw [show hexes = (⟨#[48, 49, 50, 51, 52, 53, 54, 55, 56, 57, 97, 98, 99, 100, 101, 102]⟩ : ByteArray).data.toList from rfl, at_data _ h]; rfl
theorem hexC {c : UInt8} {x : Int} (hx : x = (c.toNat : Int)) (p1 : (x / 16).toNat < (⟨#[48, 49, 50, 51, 52, 53, 54, 55, 56, 57, 97, 98, 99, 100, 101, 102]⟩ : ByteArray).size) (p2 : (x % 16).toNat < (⟨#[48, 49, 50, 51, 52, 53, 54, 55, 56, 57, 97, 98, 99, 100, 101, 102]⟩ : ByteArray).size) :
    #[Value.int .u8 92, .int .u8 120, .int .u8 ((⟨#[48, 49, 50, 51, 52, 53, 54, 55, 56, 57, 97, 98, 99, 100, 101, 102]⟩ : ByteArray)[(x / 16).toNat].toNat : Int), .int .u8 ((⟨#[48, 49, 50, 51, 52, 53, 54, 55, 56, 57, 97, 98, 99, 100, 101, 102]⟩ : ByteArray)[(x % 16).toNat].toNat : Int)] = (vbs [92, 120, dig (c.toNat / 16), dig (c.toNat % 16)]).toArray := by
  rw [dig_at p1, dig_at p2, show (x / 16).toNat = c.toNat / 16 by omega, show (x % 16).toNat = c.toNat % 16 by omega]
  rfl
theorem quote_any (s : ByteArray) (w : World) (hs : s.size ≤ 16000) :
    Calls Try.prog 8 #[.string s] w fun e w' => e = .returned (.string ⟨(quoteL s.data.toList).toArray⟩) ∧ Tch No w w' := by
  obtain ⟨i5, hi5, hz50, hz51, hz52⟩ := info_parts info5
  have h0 : QSt s w 0 (.slice (some ⟨w.heap.size, 0, none⟩) 1 1) 1 (w.alloc (.cells #[.int .u8 34] 5)) := ⟨⟨rfl, .inr ⟨w.heap.size, 1, _, rfl, Nat.le_refl _, heap_alloc_new w _, Nat.le_refl _, by unfold maxLen; omega, rfl, rfl⟩⟩, rfl, Tch.alloc _ _ _⟩
  replace hi5 := Lib.hid hi5
  replace hz50 := Lib.hid hz50
  replace hz51 := Lib.hid hz51
  replace hz52 := Lib.hid hz52
  replace h0 := Lib.hid h0
  replace hs := Lib.hid hs
  go_enter Try.func8, Try.ntmps8
  go_wp2
  go_loopg [3, 9] (s.size + 1) (fun gg ov iv wr => ∃ (i n : Nat) (c : Option Addr × Nat), gg = s.size - i + 1 ∧ iv = .int .i64 i ∧ i ≤ s.size ∧ ov = .slice c.1 n c.2 ∧ Hid (QSt s w i (.slice c.1 n c.2) n wr))
  case atStart => exact ⟨0, 1, (some ⟨w.heap.size, 0, none⟩, 1), rfl, rfl, Nat.zero_le _, rfl, h0⟩
  case round =>
    obtain ⟨i, n, ⟨oo, oc⟩, rfl, rfl, hil, rfl, hst⟩ := hrel
    replace hst : Hid (QSt s w i (.slice oo n oc) n wr) := hst
    have hn2 : n ≤ 64001 := by have h1 := hst.out.len; have h2 := qpre_len s i; have h3 := hs.out; omega
    have hB : w.heap.size ≤ wr.heap.size := hst.out.t.size
    by_cases hlt : i < s.size
    · have k0 := nn_lt2 hlt
      have hwk := Lib.hid (nn_wrapC hlt (by have := hs.out; omega))
      obtain ⟨c, hxs⟩ : ∃ c : UInt8, c = s[i] := ⟨_, rfl⟩
      obtain ⟨x, hxe⟩ : ∃ x : Int, x = (c.toNat : Int) := ⟨_, rfl⟩
      have hx' : (s[i].toNat : Int) = x := by rw [hxe, hxs]
      have hx0 : 0 ≤ x ∧ x ≤ 255 := by have := c.toNat_lt; omega
      have n34 : (x == 34) = false → ¬ c = 34 := fun h => pl_ne hxe (n := 34) (by decide) h
      have n92 : (x == 92) = false → ¬ c = 92 := fun h => pl_ne hxe (n := 92) (by decide) h
      have n10 : (x == 10) = false → ¬ c = 10 := fun h => pl_ne hxe (n := 10) (by decide) h
      have n9 : (x == 9) = false → ¬ c = 9 := fun h => pl_ne hxe (n := 9) (by decide) h
      cases q34 : (x == 34) with
      | true =>
        have hc := Lib.hid (esc1 (c := c) (.inl (pl_is hxe (n := 34) (by decide) q34)))
        clear n34 n92 n10 n9
        replace hst := Lib.hid hst
        replace hxe := Lib.hid hxe
        replace hxs := Lib.hid hxs
        replace hn2 := Lib.hid hn2
        replace hB := Lib.hid hB
        go_upto_region 15 with (first
          | (at_builtin; refine wp_append_new rfl _ _ (by rfl) w.heap.size i5 hi5.out hz50.out hz51.out hz52.out _ (qpre s i) n hst.out.len (by rfl) hst.out.row [92, c] 2 2 (by rfl) rfl (by rw [hxe.out]; rfl) (by have := hn2.out; omega) hB.out ?_; intro v7 w7 hr7 hg7; obtain ⟨po, pc, rfl⟩ := ownsRow_shape hr7; replace hr7 := Lib.hid hr7; replace hg7 := Lib.hid hg7)
          | fail)
        have hnx := Lib.hid (hst.out.next hlt (us := [92, c]) (by rw [← hxs.out]; exact hc.out) rfl hr7.out hg7.out)
        go_wp2
        go_roundg (s.size - (i + 1) + 1)
        case rel => exact ⟨i + 1, _, (po, pc), rfl, by rw [hwk.out], hlt, rfl, hnx⟩
        case measure => exact nn_down hlt
      | false =>
        cases q92 : (x == 92) with
        | true =>
          have hc := Lib.hid (esc1 (c := c) (.inr (pl_is hxe (n := 92) (by decide) q92)))
          clear n34 n92 n10 n9
          replace hst := Lib.hid hst
          replace hxe := Lib.hid hxe
          replace hxs := Lib.hid hxs
          replace hn2 := Lib.hid hn2
          replace hB := Lib.hid hB
          go_upto_region 15 with (first
            | (at_builtin; refine wp_append_new rfl _ _ (by rfl) w.heap.size i5 hi5.out hz50.out hz51.out hz52.out _ (qpre s i) n hst.out.len (by rfl) hst.out.row [92, c] 2 2 (by rfl) rfl (by rw [hxe.out]; rfl) (by have := hn2.out; omega) hB.out ?_; intro v7 w7 hr7 hg7; obtain ⟨po, pc, rfl⟩ := ownsRow_shape hr7; replace hr7 := Lib.hid hr7; replace hg7 := Lib.hid hg7)
            | fail)
          have hnx := Lib.hid (hst.out.next hlt (us := [92, c]) (by rw [← hxs.out]; exact hc.out) rfl hr7.out hg7.out)
          go_wp2
          go_roundg (s.size - (i + 1) + 1)
          case rel => exact ⟨i + 1, _, (po, pc), rfl, by rw [hwk.out], hlt, rfl, hnx⟩
          case measure => exact nn_down hlt
        | false =>
          cases q10 : (x == 10) with
          | true =>
            have hc := Lib.hid (esc2 (c := c) (pl_is hxe (n := 10) (by decide) q10))
            clear n34 n92 n10 n9
            replace hst := Lib.hid hst
            replace hxe := Lib.hid hxe
            replace hxs := Lib.hid hxs
            replace hn2 := Lib.hid hn2
            replace hB := Lib.hid hB
            go_upto_region 15 with (first
              | (at_builtin; refine wp_append_new rfl _ _ (by rfl) w.heap.size i5 hi5.out hz50.out hz51.out hz52.out _ (qpre s i) n hst.out.len (by rfl) hst.out.row [92, 110] 2 2 (by rfl) rfl (by rfl) (by have := hn2.out; omega) hB.out ?_; intro v7 w7 hr7 hg7; obtain ⟨po, pc, rfl⟩ := ownsRow_shape hr7; replace hr7 := Lib.hid hr7; replace hg7 := Lib.hid hg7)
              | fail)
            have hnx := Lib.hid (hst.out.next hlt (us := [92, 110]) (by rw [← hxs.out]; exact hc.out) rfl hr7.out hg7.out)
            go_wp2
            go_roundg (s.size - (i + 1) + 1)
            case rel => exact ⟨i + 1, _, (po, pc), rfl, by rw [hwk.out], hlt, rfl, hnx⟩
            case measure => exact nn_down hlt
          | false =>
            cases q9 : (x == 9) with
            | true =>
              have hc := Lib.hid (esc3 (c := c) (pl_is hxe (n := 9) (by decide) q9))
              clear n34 n92 n10 n9
              replace hst := Lib.hid hst
              replace hxe := Lib.hid hxe
              replace hxs := Lib.hid hxs
              replace hn2 := Lib.hid hn2
              replace hB := Lib.hid hB
              go_upto_region 15 with (first
                | (at_builtin; refine wp_append_new rfl _ _ (by rfl) w.heap.size i5 hi5.out hz50.out hz51.out hz52.out _ (qpre s i) n hst.out.len (by rfl) hst.out.row [92, 116] 2 2 (by rfl) rfl (by rfl) (by have := hn2.out; omega) hB.out ?_; intro v7 w7 hr7 hg7; obtain ⟨po, pc, rfl⟩ := ownsRow_shape hr7; replace hr7 := Lib.hid hr7; replace hg7 := Lib.hid hg7)
                | fail)
              have hnx := Lib.hid (hst.out.next hlt (us := [92, 116]) (by rw [← hxs.out]; exact hc.out) rfl hr7.out hg7.out)
              go_wp2
              go_roundg (s.size - (i + 1) + 1)
              case rel => exact ⟨i + 1, _, (po, pc), rfl, by rw [hwk.out], hlt, rfl, hnx⟩
              case measure => exact nn_down hlt
            | false =>
              by_cases q32 : x < 32
              · have hc := Lib.hid (esc4 (c := c) (n34 q34) (n92 q92) (n10 q10) (n9 q9) (.inl (UInt8.lt_iff_toNat_lt.2 (by have := q32; rw [hxe] at this; simp; omega))))
                clear n34 n92 n10 n9
                replace hst := Lib.hid hst
                replace hxe := Lib.hid hxe
                replace hxs := Lib.hid hxs
                replace hn2 := Lib.hid hn2
                replace hB := Lib.hid hB
                have hand := and15 hxe.out
                have hrowd := Lib.hid (ownsRow_tch hst.out.row (Tch.drew No wr) (fun _ _ h => h))
                have hBd := Lib.hid (show w.heap.size ≤ wr.drew.heap.size from hB.out)
                go_upto_region 14 with fail
                go_region_held3 (fun w' => True) (first | trivial | fail)
                  ((refine step_append_new (by rfl) _ _ (by rfl) w.heap.size i5 hi5.out hz50.out hz51.out hz52.out _ (qpre s i) n hst.out.len (by rfl) hrowd.out [92, 120, dig (c.toNat / 16), dig (c.toNat % 16)] 4 4 (by rfl) rfl (by exact hexC hxe.out _ _) (by have := hn2.out; omega) hBd.out ?_; intro v7 w7 hr7 hg7; replace hr7 := Lib.hid hr7; replace hg7 := Lib.hid hg7))
                all_goals
                  obtain ⟨po, pc, rfl⟩ := ownsRow_shape hr7.out
                  have hnx := Lib.hid (hst.out.next hlt (us := [92, 120, dig (c.toNat / 16), dig (c.toNat % 16)]) (by rw [← hxs.out]; exact hc.out) rfl hr7.out (Tp_drew hg7.out))
                  go_wp2
                  go_roundg (s.size - (i + 1) + 1)
                  case rel => exact ⟨i + 1, _, (po, pc), rfl, by rw [hwk.out], hlt, rfl, hnx⟩
                  case measure => exact nn_down hlt
              · have q32f : decide (x < 32) = false := decide_eq_false q32
                cases q127 : (x == 127) with
                | true =>
                  have hc := Lib.hid (esc4 (c := c) (n34 q34) (n92 q92) (n10 q10) (n9 q9) (.inr (pl_is hxe (n := 127) (by decide) q127)))
                  clear n34 n92 n10 n9
                  replace q32 := Lib.hid q32
                  replace hst := Lib.hid hst
                  replace hxe := Lib.hid hxe
                  replace hxs := Lib.hid hxs
                  replace hn2 := Lib.hid hn2
                  replace hB := Lib.hid hB
                  have hand := and15 hxe.out
                  have hrowd := Lib.hid (ownsRow_tch hst.out.row (Tch.drew No wr) (fun _ _ h => h))
                  have hBd := Lib.hid (show w.heap.size ≤ wr.drew.heap.size from hB.out)
                  go_upto_region 14 with fail
                  go_region_held3 (fun w' => True) (first | trivial | fail)
                    ((refine step_append_new (by rfl) _ _ (by rfl) w.heap.size i5 hi5.out hz50.out hz51.out hz52.out _ (qpre s i) n hst.out.len (by rfl) hrowd.out [92, 120, dig (c.toNat / 16), dig (c.toNat % 16)] 4 4 (by rfl) rfl (by exact hexC hxe.out _ _) (by have := hn2.out; omega) hBd.out ?_; intro v7 w7 hr7 hg7; replace hr7 := Lib.hid hr7; replace hg7 := Lib.hid hg7))
                  all_goals
                    obtain ⟨po, pc, rfl⟩ := ownsRow_shape hr7.out
                    have hnx := Lib.hid (hst.out.next hlt (us := [92, 120, dig (c.toNat / 16), dig (c.toNat % 16)]) (by rw [← hxs.out]; exact hc.out) rfl hr7.out (Tp_drew hg7.out))
                    go_wp2
                    go_roundg (s.size - (i + 1) + 1)
                    case rel => exact ⟨i + 1, _, (po, pc), rfl, by rw [hwk.out], hlt, rfl, hnx⟩
                    case measure => exact nn_down hlt
                | false =>
                  have hc := Lib.hid (esc5 (c := c) (n34 q34) (n92 q92) (n10 q10) (n9 q9) (fun h => h.elim (fun h => q32 (by rw [hxe]; have := UInt8.lt_iff_toNat_lt.1 h; simp at this; omega)) (pl_ne hxe (n := 127) (by decide) q127)))
                  clear n34 n92 n10 n9
                  replace q32 := Lib.hid q32
                  replace hst := Lib.hid hst
                  replace hxe := Lib.hid hxe
                  replace hxs := Lib.hid hxs
                  replace hn2 := Lib.hid hn2
                  replace hB := Lib.hid hB
                  go_upto_region 15 with (first
                    | (at_builtin; refine wp_append_new rfl _ _ (by rfl) w.heap.size i5 hi5.out hz50.out hz51.out hz52.out _ (qpre s i) n hst.out.len (by rfl) hst.out.row [c] 1 1 (by rfl) rfl (by rw [hxe.out]; rfl) (by have := hn2.out; omega) hB.out ?_; intro v7 w7 hr7 hg7; obtain ⟨po, pc, rfl⟩ := ownsRow_shape hr7; replace hr7 := Lib.hid hr7; replace hg7 := Lib.hid hg7)
                    | fail)
                  have hnx := Lib.hid (hst.out.next hlt (us := [c]) (by rw [← hxs.out]; exact hc.out) rfl hr7.out hg7.out)
                  go_wp2
                  go_roundg (s.size - (i + 1) + 1)
                  case rel => exact ⟨i + 1, _, (po, pc), rfl, by rw [hwk.out], hlt, rfl, hnx⟩
                  case measure => exact nn_down hlt
    · have k0 := nn_ge2 hlt
      have k1 : decide (i < s.size) = false := decide_eq_false hlt
      have hfin : qpre s i ++ [34] = quoteL s.data.toList := by
        unfold qpre quoteL
        rw [List.take_of_length_le (by rw [len_data]; omega)]; rfl
      replace hst := Lib.hid hst
      replace hn2 := Lib.hid hn2
      replace hB := Lib.hid hB
      replace hlt := Lib.hid hlt
      replace hil := Lib.hid hil
      replace hfin := Lib.hid hfin
      go_upto_region 16 with fail
      go_wp2_with (first
        | (at_builtin; refine wp_append_new rfl _ _ (by rfl) w.heap.size i5 hi5.out hz50.out hz51.out hz52.out _ (qpre s i) n hst.out.len (by rfl) hst.out.row [34] 1 1 (by rfl) rfl (by rfl) (by have := hn2.out; omega) hB.out ?_; intro v7 w7 hr7 hg7; obtain ⟨po, pc, rfl⟩ := ownsRow_shape hr7; have hcv := row_string2 (a := qpre s i ++ [34]) hr7 (by rw [List.length_append, hst.out.len]; rfl); rw [hfin.out] at hcv; replace hr7 := Lib.hid hr7; replace hg7 := Lib.hid hg7)
        | fail)
      go_ret
      exact ⟨rfl, hst.out.t.trans (Tch.grown (S := fun k => (Value.slice oo n oc).ownBlock = some k) hg7.out (fun k hk => .inl hk)) (fun k hk => .inr (ownsRow_ge hst.out.row hk).1)⟩
end Go.Proofs.Ytabgckjokniooaa
