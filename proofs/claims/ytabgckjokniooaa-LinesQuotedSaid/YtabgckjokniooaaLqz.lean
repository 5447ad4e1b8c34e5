/- LinesQuoted: the law walked. -/
import Derived.Test.YtabgckjokniooaaLpn
import Derived.Lib.AppendStr
import Derived.ArgAppend
import Derived.Lib.ConvBytes
namespace Go.Proofs.Ytabgckjokniooaa
open Go.RowKit Go.Ln Go.Mp Go.Tr
set_option linter.unusedVariables false
set_option maxRecDepth 100000
set_option maxHeartbeats 4000000
theorem scanOK {text : List UInt8} {ts : List Tk} (hsc : scan text = (ts, none)) (b : Nat) (v : Value) (w : World) (m : Int) (hby : BytS w b v text) (hb : b < w.heap.size) (hm : w.cell? ⟨0, 0, none⟩ = some (.int .i64 m)) :
    Calls Try.prog 7 #[v] w fun e w' => ∃ O, e = .returned (.tuple #[O, .agg #[.int .i64 0, .int .i64 0, .int .i64 0]]) ∧ tkRow w' w.heap.size O ts ∧ Below w.heap.size w w' := by
  refine (scan_any b v text w m hby hb hm).mono ?_
  rintro e w' ⟨O, f, rfl, h2, hbel⟩
  rw [hsc] at h2
  obtain ⟨rfl, hr⟩ := h2
  exact ⟨O, rfl, hr, hbel⟩
theorem early_neg (s : ByteArray) (b : Int) (w : World) (m : Int) (hm : w.cell? ⟨0, 0, none⟩ = some (.int .i64 m)) (h : b < 0) :
    Calls Try.prog 5 #[.string s, .int .i64 b] w fun e w' => e = .returned (.bool true) ∧ Below w.heap.size w w' := by
  have hA := awake_any w m hm
  skip
  replace hA := Lib.hid hA
  replace hm := Lib.hid hm
  go_enter Try.func5, Try.ntmps5
  go_wp2_with (first
    | (go_at_call 6; refine hA.out.mono ?_; rintro e w1 ⟨rfl, hb1⟩; replace hb1 := Lib.hid hb1)
    | fail)
  go_ret
  exact ⟨rfl, hb1.out⟩
theorem early_big (s : ByteArray) (b : Int) (w : World) (m : Int) (hm : w.cell? ⟨0, 0, none⟩ = some (.int .i64 m)) (h0 : 0 ≤ b) (h : 200 < b) :
    Calls Try.prog 5 #[.string s, .int .i64 b] w fun e w' => e = .returned (.bool true) ∧ Below w.heap.size w w' := by
  have hA := awake_any w m hm
  have k0 : decide (b < 0) = false := decide_eq_false (by omega)
  replace hA := Lib.hid hA
  replace hm := Lib.hid hm
  go_enter Try.func5, Try.ntmps5
  go_wp2_with (first
    | (go_at_call 6; refine hA.out.mono ?_; rintro e w1 ⟨rfl, hb1⟩; replace hb1 := Lib.hid hb1)
    | fail)
  go_ret
  exact ⟨rfl, hb1.out⟩
theorem early_long (s : ByteArray) (b : Int) (w : World) (m : Int) (hm : w.cell? ⟨0, 0, none⟩ = some (.int .i64 m)) (h0 : 0 ≤ b) (h1 : b ≤ 200) (h : 16000 < s.size) :
    Calls Try.prog 5 #[.string s, .int .i64 b] w fun e w' => e = .returned (.bool true) ∧ Below w.heap.size w w' := by
  have hA := awake_any w m hm
  have k0 : decide (b < 0) = false ∧ decide (200 < b) = false ∧ (16000 : Int) < (s.size : Int) := ⟨decide_eq_false (by omega), decide_eq_false (by omega), by omega⟩
  replace hA := Lib.hid hA
  replace hm := Lib.hid hm
  go_enter Try.func5, Try.ntmps5
  go_wp2_with (first
    | (go_at_call 6; refine hA.out.mono ?_; rintro e w1 ⟨rfl, hb1⟩; replace hb1 := Lib.hid hb1)
    | fail)
  go_ret
  exact ⟨rfl, hb1.out⟩
theorem rep_succ (i : Nat) : List.replicate (i + 1) (32 : UInt8) = List.replicate i 32 ++ [32] := List.replicate_succ'
theorem str_vbs (l : List UInt8) : Lib.strCells ⟨l.toArray⟩ = vbs l := rfl
theorem wp_append_str {w : World} {ops : Array Oper} {rest : List Oper} {o : Oper} {act : Act} {Q : Exit → Act → World → Prop} (hgd : o.guard = none) (sl x : Operand)
    (ho : o.op = .call { callee := .builtin .append, args := #[sl, x], argTypes := #[22, 9] }) (base : Nat) (i : TypeInfo) (hi : Try.prog.info? 5 = some i) (hz : i.zero = some (.int .u8 0)) (hsize : i.size = 1) (hby : i.bytes = 1)
    (v : Value) (a : List UInt8) (n : Nat) (hs : act.eval sl = v) (hown : w.ownsRow base 5 1 v n (vbs a)) (us : List UInt8) (hx : act.eval x = .string ⟨us.toArray⟩)
    (hb : n + us.length ≤ 140737488355328) (hbase : base ≤ w.heap.size)
    (h : ∀ v' w', w'.ownsRow base 5 1 v' (n + us.length) (vbs (a ++ us)) → w.grownBy w' v.ownBlock → wpList Try.prog ops Q rest (act.put o.dst v') w') : wpList Try.prog ops Q (o :: rest) act w := by
  have e : (⟨us.toArray⟩ : ByteArray).size = us.length := rfl
  refine Lib.wpList_append_own_string w hgd sl x 22 9 ho base 5 i Try.underlying22 Try.underlying9 hi hz hsize hby v n (vbs a) hs hown ⟨us.toArray⟩ hx (by rw [e]; unfold maxLen; omega) (by rw [e]; exact hb) hbase ?_
  intro v' w' h1 h2 _
  refine h v' w' ?_ h2
  rw [show vbs (a ++ us) = vbs a ++ vbs us by simp [vbs]]
  exact h1
theorem conv_key (w4 : World) : (convert 22 22 (.slice (some ⟨w4.heap.size + 1, 0, none⟩) 5 5)).run Try.prog ((w4.alloc (.cells #[.int .i64 0, .int .i64 0, .int .i64 0] 27)).alloc (.cells #[.int .u8 107, .int .u8 101, .int .u8 121, .int .u8 58, .int .u8 32] 5)) = .ok (.slice (some ⟨w4.heap.size + 1, 0, none⟩) 5 5) ((w4.alloc (.cells #[.int .i64 0, .int .i64 0, .int .i64 0] 27)).alloc (.cells #[.int .u8 107, .int .u8 101, .int .u8 121, .int .u8 58, .int .u8 32] 5 (5, 6))) := by
  have h := Lib.run_convert_bytes_const (P := Try.prog) (w4.alloc (.cells #[.int .i64 0, .int .i64 0, .int .i64 0] 27)) 22 5 #[.int .u8 107, .int .u8 101, .int .u8 121, .int .u8 58, .int .u8 32] 5 5 Try.underlying22 Try.underlying5
  rw [World.size_alloc] at h
  exact h
/-- A row of bytes that is not empty. -/
theorem row_at {w : World} {base n : Nat} {v : Value} {l : List UInt8} (h : w.ownsRow base 5 1 v n (vbs l)) (hn : 0 < n) : ∃ g c, v = .slice (some ⟨g, 0, none⟩) n c ∧ base ≤ g ∧ g < w.heap.size := by
  rcases h.2 with ⟨rfl, e⟩ | ⟨g, cap, cur, rfl, hb, hg, _⟩
  · omega
  · exact ⟨g, cap, rfl, hb, heap_lt hg⟩
theorem byts_cells {w : World} {b g n c : Nat} {l : List UInt8} (h : BytS w b (.slice (some ⟨g, 0, none⟩) n c) l) : ∀ j u, (vbs l)[j]? = some u → w.cell? ((⟨g, 0, none⟩ : Addr).add j) = some u := fun j u hj => by
  obtain ⟨ao, cap, e, _, _, h3⟩ := h
  cases e
  unfold vbs at hj
  rw [List.getElem?_map] at hj
  obtain ⟨c, hc, rfl⟩ := Option.map_eq_some_iff.1 hj
  obtain ⟨off, e, hx⟩ := h3 j c hc
  cases e
  rw [add_at]; exact hx
theorem key_cells (W : World) : ∀ j u, (vbs [107, 101, 121, 58, 32])[j]? = some u → (W.alloc (.cells #[.int .u8 107, .int .u8 101, .int .u8 121, .int .u8 58, .int .u8 32] 5 (5, 6))).cell? ((⟨W.heap.size, 0, none⟩ : Addr).add j) = some u := fun j u hj => by
  rw [add_zero_at]
  refine (cell_of_row _ _ j _ _ _ (heap_alloc_new W _)).trans ?_
  rw [← Array.getElem?_toList]
  exact hj
theorem conv_str (w : World) (s : ByteArray) : ∃ q w', (convert 9 22 (.string s)).run Try.prog w = .ok (.slice (some ⟨w.heap.size, 0, none⟩) s.size q) w' ∧ BytS w' w.heap.size (.slice (some ⟨w.heap.size, 0, none⟩) s.size q) s.data.toList ∧ Tch No w w' ∧ w'.heap.size = w.heap.size + 1 := by
  refine ⟨_, _, Lib.run_convert_string_bytes w 9 22 5 s Try.underlying9 Try.underlying22 Try.underlying5, ?_, ⟨rfl, rfl, rfl, by rw [Lib.bytesWorld_size]; omega, fun k hk _ => Lib.bytesWorld_at_old w 5 s k hk⟩, Lib.bytesWorld_size w 5 s⟩
  refine ⟨_, _, by rw [len_data], by rw [len_data]; exact grownCap_ge _ _ _ _, (fun h => by cases h), fun i c hc => ⟨0, rfl, ?_⟩⟩
  have hi := (List.getElem?_eq_some_iff.1 hc).1
  rw [len_data] at hi
  rw [Nat.zero_add, Lib.bytesWorld_cell w 5 s i hi, List.getD_eq_getElem?_getD, hc]; rfl
theorem late_quoted (s : ByteArray) (n : Nat) (w : World) (m : Int) (hm : w.cell? ⟨0, 0, none⟩ = some (.int .i64 m)) (hn : n ≤ 200) (hs : s.size ≤ 16000) :
    Calls Try.prog 5 #[.string s, .int .i64 n] w fun e w' => e = .returned (.bool true) ∧ Below w.heap.size w w' := by
  obtain ⟨ob, ho, _⟩ := cell_obj hm
  have h0w := heap_lt ho
  have hA := awake_any w m hm
  have hcell : ∀ wx, Below w.heap.size w wx → wx.cell? ⟨0, 0, none⟩ = some (.int .i64 m) := fun wx hB => (hB.cell (p := ⟨0, 0, none⟩) h0w).trans hm
  obtain ⟨i5, hi5, hz50, hz51, hz52⟩ := info_parts info5
  have k0 : decide ((n : Int) < 0) = false ∧ decide ((200 : Int) < (n : Int)) = false ∧ decide (200 < n) = false ∧ decide ((16000 : Int) < (s.size : Int)) = false ∧ decide (16000 < s.size) = false := ⟨decide_eq_false (by omega), decide_eq_false (by omega), decide_eq_false (by omega), decide_eq_false (by omega), decide_eq_false (by omega)⟩
  have hQ := fun wx => quote_any s wx hs
  have hql := quote_len s.data.toList
  rw [len_data] at hql
  replace hA := Lib.hid hA
  replace hm := Lib.hid hm
  replace ho := Lib.hid ho
  replace hcell := Lib.hid hcell
  replace hi5 := Lib.hid hi5
  replace hz50 := Lib.hid hz50
  replace hz51 := Lib.hid hz51
  replace hz52 := Lib.hid hz52
  replace hn := Lib.hid hn
  replace hs := Lib.hid hs
  replace hQ := Lib.hid hQ
  replace hql := Lib.hid hql
  go_enter Try.func5, Try.ntmps5
  go_wp2_with (first
    | (go_at_call 6; refine hA.out.mono ?_; rintro e w1 ⟨rfl, hb1⟩; replace hb1 := Lib.hid hb1)
    | fail)
  go_loopg [5, 6] (n + 1) (fun gg ov iv wr => ∃ (i : Nat) (c : Option Addr × Nat), gg = n - i + 1 ∧ iv = .int .i64 i ∧ i ≤ n ∧ ov = .slice c.1 i c.2 ∧ Hid (wr.ownsRow w1.heap.size 5 1 (.slice c.1 i c.2) i (vbs (List.replicate i 32)) ∧ Below w.heap.size w wr ∧ w1.heap.size ≤ wr.heap.size))
  case atStart => exact ⟨0, (none, 0), rfl, rfl, Nat.zero_le _, rfl, Lib.hid ⟨World.ownsRow_nil _ _ _ _, hb1.out, Nat.le_refl _⟩⟩
  case round =>
    obtain ⟨i, ⟨oo, oc⟩, rfl, rfl, hil, rfl, hst⟩ := hrel
    replace hst : Hid (wr.ownsRow w1.heap.size 5 1 (.slice oo i oc) i (vbs (List.replicate i 32)) ∧ Below w.heap.size w wr ∧ w1.heap.size ≤ wr.heap.size) := hst
    by_cases hlt : i < n
    · have q0 := nn_lt2 hlt
      have hwk := Lib.hid (nn_wrapC hlt (by have := hn.out; omega))
      replace hil := Lib.hid hil
      go_wp2_with (first
        | (at_builtin; refine wp_append_new rfl _ _ (by rfl) w1.heap.size i5 hi5.out hz50.out hz51.out hz52.out _ (List.replicate i 32) i (by simp) (by rfl) hst.out.1 [32] 1 1 (by rfl) rfl (by rfl) (by have := hn.out; omega) hst.out.2.2 ?_; intro v7 w7 hr7 hg7; obtain ⟨po, pc, rfl⟩ := ownsRow_shape hr7; replace hr7 := Lib.hid hr7; replace hg7 := Lib.hid hg7)
        | fail)
      go_roundg (n - (i + 1) + 1)
      case rel => exact ⟨i + 1, (po, pc), rfl, by rw [hwk.out], hlt, rfl, Lib.hid ⟨by rw [rep_succ]; exact hr7.out, hst.out.2.1.grown hg7.out hst.out.2.1.size (fun k hk => Nat.le_trans hb1.out.size (ownsRow_ge hst.out.1 hk).1), Nat.le_trans hst.out.2.2 hg7.out.size⟩⟩
      case measure => exact nn_down hlt
    · have q0 := nn_ge2 hlt
      have q1 : decide (i < n) = false := decide_eq_false hlt
      obtain rfl : i = n := by omega
      replace hlt := Lib.hid hlt
      replace hil := Lib.hid hil
      go_upto_region 11 with (first
        | (go_at_call 8; refine (hQ.out _).mono ?_; rintro e w2 ⟨rfl, t2⟩; have hr2 := Lib.hid (ownsRow_tch hst.out.1 t2 (fun _ _ h => h)); replace t2 := Lib.hid t2)
        | (at_builtin; refine wp_append_str rfl _ _ (by rfl) w1.heap.size i5 hi5.out hz50.out hz51.out hz52.out _ (List.replicate i 32) i (by rfl) hr2.out (quoteL s.data.toList) (by rfl) (by have := hn.out; have := hql.out; have := hs.out; omega) (Nat.le_trans hst.out.2.2 t2.out.size) ?_; intro v3 w3 hr3 hg3; replace hr3 := Lib.hid hr3; replace hg3 := Lib.hid hg3)
        | fail)
      have hL : 0 < i + (quoteL s.data.toList).length := by unfold quoteL; rw [List.length_cons]; omega
      have hr3' : w3.ownsRow w1.heap.size 5 1 v3 (i + (quoteL s.data.toList).length) (vbs (text1 i s.data.toList)) := hr3.out
      obtain ⟨tg, tc', rfl, htg1, htg2⟩ := row_at hr3' hL
      have hlen1 : i + (quoteL s.data.toList).length = (text1 i s.data.toList).length := by unfold text1; rw [List.length_append, List.length_replicate]
      obtain ⟨tb, hby, htb, htb2⟩ := row_byts hr3' hlen1
      obtain rfl := htb2 _ rfl
      have hB2 : Below w.heap.size w w2 := Tch.below hst.out.2.1 t2.out hst.out.2.1.size (fun _ h => h.elim)
      have hB3 : Below w.heap.size w w3 := hB2.grown hg3.out hB2.size (fun k hk => Nat.le_trans hb1.out.size (ownsRow_ge hr2.out hk).1)
      have hs1 := Lib.hid (scanOK (scan_text1 (b := i) (s := s.data.toList) hn.out (by rw [len_data]; exact hs.out)) tg _ w3 m hby htg2 (hcell.out w3 hB3))
      have hscan2 := fun b v wx h1 h2 h3 => scanOK (m := m) (scan_text2 (b := i) (s := s.data.toList) hn.out (by rw [len_data]; exact hs.out)) b v wx h1 h2 h3
      obtain ⟨L, hLL⟩ : ∃ L, L = i + (quoteL s.data.toList).length := ⟨_, rfl⟩
      rw [← hLL] at hby hr3' hL hlen1 hs1 ⊢
      have hL2 : L ≤ 64202 := by have := hn.out; have := hql.out; have := hs.out; omega
      clear hr3 hg3 hr2 t2
      replace hr3' := Lib.hid hr3'
      replace hby := Lib.hid hby
      replace hB2 := Lib.hid hB2
      replace hB3 := Lib.hid hB3
      replace hscan2 := Lib.hid hscan2
      replace hlen1 := Lib.hid hlen1
      replace hLL := Lib.hid hLL
      replace htg1 := Lib.hid htg1
      replace htg2 := Lib.hid htg2
      replace hL := Lib.hid hL
      replace hL2 := Lib.hid hL2
      go_upto_region 13 with (first
        | (go_at_call 7; (with_reducible refine hs1.out.mono ?_); rintro e w4 ⟨O1, rfl, hr4, hb4⟩; obtain ⟨o1, c1, rfl⟩ := ownsRow_shape hr4; have kc2 := conv_key w4; have hb36 : Below w3.heap.size w3 ((w4.alloc (.cells #[.int .i64 0, .int .i64 0, .int .i64 0] 27)).alloc (.cells #[.int .u8 107, .int .u8 101, .int .u8 121, .int .u8 58, .int .u8 32] 5 (5, 6))) := (hb4.alloc hb4.size _).alloc (by have := hb4.size; simp; omega) _; have hn6 := Lib.hid (byts_cells (hby.out.keep (hb36.block tg htg2.out))); have hk6 : Hid (∀ j u, (vbs [107, 101, 121, 58, 32])[j]? = some u → ((w4.alloc (.cells #[.int .i64 0, .int .i64 0, .int .i64 0] 27)).alloc (.cells #[.int .u8 107, .int .u8 101, .int .u8 121, .int .u8 58, .int .u8 32] 5 (5, 6))).cell? ((⟨w4.heap.size + 1, 0, none⟩ : Addr).add j) = some u) := Lib.hid (by have h := key_cells (w4.alloc (.cells #[.int .i64 0, .int .i64 0, .int .i64 0] 27)); rw [World.size_alloc] at h; exact h); replace hb36 := Lib.hid hb36; replace hr4 := Lib.hid hr4; replace hb4 := Lib.hid hb4)
        | (at_builtin; refine wpList_append_grows _ rfl _ _ 22 (by rfl) 5 i5 (.int .u8 0) 1 1 Try.underlying22 hi5.out hz50.out hz51.out hz52.out rfl (by decide) (some ⟨w4.heap.size + 1, 0, none⟩) 5 5 (vbs [107, 101, 121, 58, 32]) (by rfl) (fun h => by cases h) rfl (fun b hb => by cases hb; exact hk6.out) ⟨tg, 0, none⟩ L tc' (vbs (text1 i s.data.toList)) (by rfl) (by rw [vbs_length, Nat.mul_one, hlen1.out]) hn6.out (fun u hu => by obtain ⟨c, _, rfl⟩ := List.mem_map.1 hu; rfl) (by have := hL.out; omega) (by unfold maxLen; have := hL2.out; omega) (by have := hL2.out; omega) ?_; intro v7 w7 hr7 hg7; replace hr7 := Lib.hid hr7; replace hg7 := Lib.hid hg7; clear kc2)
        | fail)
      have hr7' : w7.ownsRow ((w4.alloc (.cells #[.int .i64 0, .int .i64 0, .int .i64 0] 27)).alloc (.cells #[.int .u8 107, .int .u8 101, .int .u8 121, .int .u8 58, .int .u8 32] 5 (5, 6))).heap.size 5 1 v7 (5 + L) (vbs (text2 i s.data.toList)) := by
        have e : vbs (text2 i s.data.toList) = vbs [107, 101, 121, 58, 32] ++ vbs (text1 i s.data.toList) := by unfold text2; simp [vbs]
        rw [e]; exact hr7.out
      have hlen2 : 5 + L = (text2 i s.data.toList).length := by unfold text2; rw [List.length_append, ← hlen1.out]; rfl
      obtain ⟨ug, uc, rfl, hug1, hug2⟩ := row_at hr7' (by omega)
      obtain ⟨ub, hby7, _, hub2⟩ := row_byts hr7' hlen2
      obtain rfl := hub2 _ rfl
      have hB37 : Below w3.heap.size w3 w7 := hb36.out.grown hg7.out hb36.out.size (fun k hk => by cases hk)
      have hB7 : Below w.heap.size w w7 := hB3.out.trans (hB37.mono hB3.out.size)
      have hs2 := Lib.hid (hscan2.out ug _ w7 hby7 hug2 (hcell.out w7 hB7))
      have hr47 : tkRow w7 w3.heap.size (.slice o1 1 c1) [⟨4, 1, i, s.data.toList, true⟩] := by
        have h1 : Below w4.heap.size w4 w7 := (((Below.refl _ w4).alloc (Nat.le_refl _) (.cells #[.int .i64 0, .int .i64 0, .int .i64 0] 27)).alloc (by simp) (.cells #[.int .u8 107, .int .u8 101, .int .u8 121, .int .u8 58, .int .u8 32] 5 (5, 6))).grown hg7.out (by simp; omega) (fun k hk => by cases hk)
        exact ownsRow_tch hr4.out (Tch.of_below h1 : Tch No w4 w7) (fun _ _ h => h)
      have hf7 : w7.heap[w4.heap.size]? = some (.cells #[.int .i64 0, .int .i64 0, .int .i64 0] 27 (0, 0)) := by
        refine (hg7.out.block _ (by simp; omega) (by simp)).trans ?_
        exact (Below.heap_alloc _ _ _ (by simp)).trans (heap_alloc_new w4 _)
      clear hr7 hg7 hn6 hk6 hs1
      replace hr7' := Lib.hid hr7'
      replace hlen2 := Lib.hid hlen2
      replace hby7 := Lib.hid hby7
      replace hB37 := Lib.hid hB37
      replace hB7 := Lib.hid hB7
      replace hr47 := Lib.hid hr47
      replace hf7 := Lib.hid hf7
      replace hug1 := Lib.hid hug1
      go_upto_region 13 with (first
        | (go_at_call 7; (with_reducible refine hs2.out.mono ?_); rintro e w8 ⟨O2, rfl, hr8, hb8⟩; obtain ⟨o2, c2, rfl⟩ := ownsRow_shape hr8; replace hr8 := Lib.hid hr8; replace hb8 := Lib.hid hb8)
        | fail)
      have hb79 : Below w7.heap.size w7 (w8.alloc (.cells #[.int .i64 0, .int .i64 0, .int .i64 0] 27)) := hb8.out.alloc hb8.out.size _
      have hB9 : Below w.heap.size w (w8.alloc (.cells #[.int .i64 0, .int .i64 0, .int .i64 0] 27)) := hB7.out.trans (hb79.mono hB7.out.size)
      have h1r : tkRow (w8.alloc (.cells #[.int .i64 0, .int .i64 0, .int .i64 0] 27)) w3.heap.size (.slice o1 1 c1) [⟨4, 1, i, s.data.toList, true⟩] := ownsRow_tch hr47.out (Tch.of_below hb79 : Tch No _ _) (fun _ _ h => h)
      have h2r : tkRow (w8.alloc (.cells #[.int .i64 0, .int .i64 0, .int .i64 0] 27)) w7.heap.size (.slice o2 2 c2) [⟨3, 1, 0, [107, 101, 121], false⟩, ⟨4, 1, i + 5, s.data.toList, true⟩] := ownsRow_tch hr8.out (Tch.alloc No _ _) (fun _ _ h => h)
      have h1f : (w8.alloc (.cells #[.int .i64 0, .int .i64 0, .int .i64 0] 27)).heap[w4.heap.size]? = some (.cells #[.int .i64 0, .int .i64 0, .int .i64 0] 27 (0, 0)) := (hb79.block _ (heap_lt hf7.out)).trans hf7.out
      have h2f := heap_alloc_new w8 (.cells #[.int .i64 0, .int .i64 0, .int .i64 0] 27)
      obtain ⟨w9, hw9⟩ : ∃ w9, w9 = w8.alloc (.cells #[.int .i64 0, .int .i64 0, .int .i64 0] 27) := ⟨_, rfl⟩
      rw [← hw9] at h1r h2r h1f h2f hB9 ⊢
      clear hw9 hb79
      have y2 : w9.cell? ⟨w4.heap.size, 2, none⟩ = some (.int .i64 0) := cell_of_row _ _ 2 _ _ _ h1f
      have z2 : w9.cell? ⟨w8.heap.size, 2, none⟩ = some (.int .i64 0) := cell_of_row _ _ 2 _ _ _ h2f
      have hP := Lib.hid (plain_call s w9 m (by have := hs.out; omega) (hcell.out w9 hB9))
      replace h1r := Lib.hid h1r
      replace h2r := Lib.hid h2r
      replace h1f := Lib.hid h1f
      replace h2f := Lib.hid h2f
      replace hB9 := Lib.hid hB9
      obtain ⟨pb, hpb⟩ : ∃ pb, pb = plainB s.data.toList := ⟨_, rfl⟩
      rw [← hpb] at hP
      replace hpb := Lib.hid hpb
      cases pb with
      | false =>
        go_upto_region 19 with (first
          | (go_at_call 9; (with_reducible refine hP.out.mono ?_); rintro e w10 ⟨rfl, t10⟩; replace t10 := Lib.hid t10)
          | fail)
        have h1q := ownsRow_tch h1r.out t10.out (fun _ _ h => h)
        have h2q := ownsRow_tch h2r.out t10.out (fun _ _ h => h)
        obtain ⟨g1, rfl, hg1, a0, a1, a2, a3, a4⟩ := tk_cells h1q (i := 0) rfl
        obtain ⟨g2, rfl, hg2, e0, e1, e2, e3, e4⟩ := tk_cells h2q (i := 0) rfl
        obtain ⟨g2', eg, _, d0, d1, d2, d3, d4⟩ := tk_cells h2q (i := 1) rfl
        cases eg
        simp only [Nat.zero_mul, Nat.zero_add, Nat.one_mul, Nat.reduceAdd] at a0 a1 a2 a3 a4 e0 e1 e2 e3 e4 d0 d1 d2 d3 d4
        replace a3 : w10.cell? ⟨g1, 3, none⟩ = some (.string s) := a3
        replace d3 : w10.cell? ⟨g2, 8, none⟩ = some (.string s) := d3
        replace h1q := Lib.hid h1q
        replace h2q := Lib.hid h2q
        clear y2 z2
        go_wp2_with fail
        go_ret
        exact ⟨by simp, Tch.below hB9.out t10.out hB9.out.size (fun _ h => h.elim)⟩
      | true =>
        go_upto_region 16 with (first
          | (go_at_call 9; (with_reducible refine hP.out.mono ?_); rintro e w10 ⟨rfl, t10⟩; replace t10 := Lib.hid t10)
          | fail)
        obtain ⟨pc, hsc3⟩ := scan_plain (s := s.data.toList) hpb.out.symm (by rw [len_data]; exact hs.out)
        have hb10 := Tch.below hB9.out t10.out hB9.out.size (fun _ h => h.elim)
        obtain ⟨qc, w11, hcv, hby11, t11, hsz11⟩ := conv_str w10 s
        have hb11 := Tch.below hb10 t11 hb10.size (fun _ h => h.elim)
        have hs3 := Lib.hid (scanOK hsc3 w10.heap.size _ w11 m hby11 (by omega) (hcell.out w11 hb11))
        have t91 := t10.out.trans t11 (fun _ h => h.elim)
        replace hsc3 := Lib.hid hsc3
        replace hb10 := Lib.hid hb10
        replace hb11 := Lib.hid hb11
        replace hby11 := Lib.hid hby11
        replace t11 := Lib.hid t11
        replace t91 := Lib.hid t91
        go_upto_region 17 with (first
          | (go_at_call 7; (with_reducible refine hs3.out.mono ?_); rintro e w12 ⟨O3, rfl, hr12, hb12⟩; obtain ⟨o3, c3, rfl⟩ := ownsRow_shape hr12; replace hr12 := Lib.hid hr12; replace hb12 := Lib.hid hb12)
          | fail)
        have hb13 : Below w11.heap.size w11 (w12.alloc (.cells #[.int .i64 0, .int .i64 0, .int .i64 0] 27)) := hb12.out.alloc hb12.out.size _
        have t13 : Tch No w9 (w12.alloc (.cells #[.int .i64 0, .int .i64 0, .int .i64 0] 27)) := t91.out.trans (Tch.of_below hb13 : Tch No _ _) (fun _ h => h.elim)
        have h1q := ownsRow_tch h1r.out t13 (fun _ _ h => h)
        have h2q := ownsRow_tch h2r.out t13 (fun _ _ h => h)
        have h3q : tkRow (w12.alloc (.cells #[.int .i64 0, .int .i64 0, .int .i64 0] 27)) w11.heap.size (.slice o3 1 c3) [⟨4, 1, pc, s.data.toList, false⟩] := ownsRow_tch hr12.out (Tch.alloc No _ _) (fun _ _ h => h)
        have h3f := heap_alloc_new w12 (.cells #[.int .i64 0, .int .i64 0, .int .i64 0] 27)
        have hb14 := hb11.out.trans (hb13.mono hb11.out.size)
        obtain ⟨w13, hw13⟩ : ∃ w13, w13 = w12.alloc (.cells #[.int .i64 0, .int .i64 0, .int .i64 0] 27) := ⟨_, rfl⟩
        rw [← hw13] at h1q h2q h3q h3f hb14 ⊢
        clear hw13 hb13 t13 hcv y2 z2
        have x2 : w13.cell? ⟨w12.heap.size, 2, none⟩ = some (.int .i64 0) := cell_of_row _ _ 2 _ _ _ h3f
        obtain ⟨g1, rfl, hg1, a0, a1, a2, a3, a4⟩ := tk_cells h1q (i := 0) rfl
        obtain ⟨g2, rfl, hg2, e0, e1, e2, e3, e4⟩ := tk_cells h2q (i := 0) rfl
        obtain ⟨g2', eg, _, d0, d1, d2, d3, d4⟩ := tk_cells h2q (i := 1) rfl
        cases eg
        obtain ⟨g3, rfl, hg3', b0, b1, b2, b3, b4⟩ := tk_cells h3q (i := 0) rfl
        simp only [Nat.zero_mul, Nat.zero_add, Nat.one_mul, Nat.reduceAdd] at a0 a1 a2 a3 a4 b0 b1 b2 b3 b4 e0 e1 e2 e3 e4 d0 d1 d2 d3 d4
        replace a3 : w13.cell? ⟨g1, 3, none⟩ = some (.string s) := a3
        replace d3 : w13.cell? ⟨g2, 8, none⟩ = some (.string s) := d3
        replace b3 : w13.cell? ⟨g3, 3, none⟩ = some (.string s) := b3
        replace h1q := Lib.hid h1q
        replace h2q := Lib.hid h2q
        replace h3q := Lib.hid h3q
        replace h3f := Lib.hid h3f
        replace hb14 := Lib.hid hb14
        go_wp2_with fail
        go_ret
        exact ⟨by simp, hb14.out⟩
theorem quoted_walk (s : ByteArray) (b : Int) (w : World) (m : Int) (hm : w.cell? ⟨0, 0, none⟩ = some (.int .i64 m)) :
    Calls Try.prog 5 #[.string s, .int .i64 b] w fun e w' => e = .returned (.bool true) ∧ Below w.heap.size w w' := by
  by_cases h0 : b < 0
  · exact early_neg s b w m hm h0
  · by_cases h1 : 200 < b
    · exact early_big s b w m hm (by omega) h1
    · by_cases h2 : 16000 < s.size
      · exact early_long s b w m hm (by omega) (by omega) h2
      · obtain ⟨n, rfl⟩ := Int.eq_ofNat_of_zero_le (show 0 ≤ b by omega)
        exact late_quoted s n w m hm (by omega) (by omega)
end Go.Proofs.Ytabgckjokniooaa
