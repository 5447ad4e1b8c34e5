/- over: may the subtree be, and where does it end? -/
import Derived.Test.YtcnjmkjfgghgoaaZt5
section

namespace Go.Proofs.Ytcnjmkjfgghgoaa
open Go.RowKit Go.Mp Go.Tr
set_option linter.unusedVariables false
set_option maxRecDepth 100000
set_option maxHeartbeats 4000000
def OverOK (ns : List Nd) (v : Value) (f : Nat) : Prop := ∀ (d : Nat), d + f = 17 → ∀ (w : World) (k : Int), NdV w v ns → Calls Try.prog 39 #[v, .int .i64 k, .int .i64 d] w fun e w' => e = .returned (.int .i64 (overR ns f k)) ∧ Below w.heap.size w w'
theorem over_out (ns : List Nd) (v : Value) (f : Nat) (d : Nat) (w : World) (k : Int) (hN : NdV w v ns) (hr : overR ns f k = -1) (h : k < 0 ∨ (ns.length : Int) ≤ k ∨ 16 < d) : Calls Try.prog 39 #[v, .int .i64 k, .int .i64 d] w fun e w' => e = .returned (.int .i64 (overR ns f k)) ∧ Below w.heap.size w w' := by
  obtain ⟨ao, cap, rfl⟩ := hN.shape
  rw [hr]
  have hB := Lib.hid (Below.refl w.heap.size w)
  by_cases k1 : k < 0
  · skip
    replace hN := Lib.hid hN
    replace hr := Lib.hid hr
    replace h := Lib.hid h
    go_enter Try.func39, Try.ntmps39
    go_wp2
    go_ret
    exact ⟨rfl, hB.out⟩
  · have k1' : decide (k < 0) = false := decide_eq_false k1
    by_cases k2 : (ns.length : Int) ≤ k
    · skip
      replace hN := Lib.hid hN
      replace hr := Lib.hid hr
      replace h := Lib.hid h
      replace k1 := Lib.hid k1
      go_enter Try.func39, Try.ntmps39
      go_wp2
      go_ret
      exact ⟨rfl, hB.out⟩
    · have k2' : decide ((ns.length : Int) ≤ k) = false := decide_eq_false k2
      have k3 : (16 : Int) < (d : Int) := by omega
      replace hN := Lib.hid hN
      replace hr := Lib.hid hr
      replace h := Lib.hid h
      replace k1 := Lib.hid k1
      replace k2 := Lib.hid k2
      go_enter Try.func39, Try.ntmps39
      go_wp2
      go_ret
      exact ⟨rfl, hB.out⟩
def ndO (n : Nd) (kv : Value) : Obj := .cells #[.int .i64 n.kind, .string n.key, .string n.text, .bool n.quoted, .int .i64 n.line, kv] 58
theorem over_bad (ns : List Nd) (v : Value) (d : Nat) (w : World) (i : Nat) (n : Nd) (hd : d ≤ 16) (hN : NdV w v ns) (hn : ns[i]? = some n) (hb : badN n = true) : Calls Try.prog 39 #[v, .int .i64 i, .int .i64 d] w fun e w' => e = .returned (.int .i64 (-1)) ∧ Below w.heap.size w w' := by
  obtain ⟨ao, cap, rfl⟩ := hN.shape
  obtain ⟨g, off, kv, rfl, hg, c0, c1, c2, c3, c4, c5, hk⟩ := hN.at hn
  obtain ⟨ko, kcap, rfl⟩ := hk.shape
  have hi := (List.getElem?_eq_some_iff.1 hn).1
  have k0 : (0 : Int) ≤ i := Int.natCast_nonneg i
  have k0' : decide ((i : Int) < 0) = false := decide_eq_false (by omega)
  have k2 : (i : Int) < (ns.length : Int) := by omega
  have k2' : decide ((ns.length : Int) ≤ (i : Int)) = false := decide_eq_false (by omega)
  have k2n : decide (ns.length ≤ i) = false := decide_eq_false (by omega)
  have k3' : decide ((16 : Int) < (d : Int)) = false := decide_eq_false (by omega)
  have hB := (Below.refl w.heap.size w).alloc (Nat.le_refl _) (ndO n (.slice ko n.kids.length kcap))
  obtain ⟨nk, key, tx, qd, ln, ks⟩ := n
  unfold badN at hb
  unfold ndO at hB
  dsimp only at c0 c1 c2 c3 c4 c5 hB hb hk
  obtain ⟨m, hm⟩ : ∃ m, m = ks.length := ⟨_, rfl⟩
  have hem : ks.isEmpty = (m == 0) := by rw [hm]; cases ks <;> rfl
  rw [← hm] at c5 hB hk
  rw [hem] at hb
  clear hem hm
  replace hN := Lib.hid hN
  replace hn := Lib.hid hn
  replace hk := Lib.hid hk
  replace hi := Lib.hid hi
  replace hd := Lib.hid hd
  replace hB := Lib.hid hB
  go_enter Try.func39, Try.ntmps39
  cases h1 : decide (ln < 0) with
  | true =>
    have h1' : ln < 0 := of_decide_eq_true h1
    replace hb := Lib.hid hb
    go_wp2
    go_ret
    exact ⟨rfl, hB.out⟩
  | false =>
    cases h2 : decide (nk < 1) with
    | true =>
      have h2' : nk < 1 := of_decide_eq_true h2
      replace hb := Lib.hid hb
      go_wp2
      go_ret
      exact ⟨rfl, hB.out⟩
    | false =>
      cases h3 : decide (3 < nk) with
      | true =>
        have h3' : 3 < nk := of_decide_eq_true h3
        replace hb := Lib.hid hb
        go_wp2
        go_ret
        exact ⟨rfl, hB.out⟩
      | false =>
        rw [h1, h2, h3] at hb
        cases h4 : decide (nk = 1) with
        | true =>
          have h4' : nk = 1 := of_decide_eq_true h4
          subst h4'
          have h5 : ¬ m = 0 := by intro e; rw [e] at hb; simp at hb
          have h5' : decide ((m : Int) = 0) = false := decide_eq_false (by omega)
          have h5n : decide (m = 0) = false := decide_eq_false h5
          have h5b : (m == 0) = false := by rw [beq_eq_false_iff_ne]; exact h5
          replace hb := Lib.hid hb
          replace h5 := Lib.hid h5
          replace h2 := Lib.hid h2
          replace h3 := Lib.hid h3
          go_wp2
          go_ret
          exact ⟨rfl, hB.out⟩
        | false =>
          have h4' : ¬ nk = 1 := of_decide_eq_false h4
          have h4b : (nk == 1) = false := by rw [beq_eq_false_iff_ne]; exact h4'
          by_cases h5 : m = 0
          · subst h5
            replace hb := Lib.hid hb
            replace h4' := Lib.hid h4'
            go_wp2
            go_ret
            exact ⟨rfl, hB.out⟩
          · have h5' : decide ((m : Int) = 0) = false := decide_eq_false (by omega)
            have h5n : decide (m = 0) = false := decide_eq_false h5
            have h5b : (m == 0) = false := by rw [beq_eq_false_iff_ne]; exact h5
            have hb2 : (!tx.toList.isEmpty || qd) = true := by rw [h4, h5b] at hb; simpa using hb
            cases h6 : (tx.toList == []) with
            | false =>
              replace hb := Lib.hid hb
              replace h4' := Lib.hid h4'
              replace h5 := Lib.hid h5
              replace hb2 := Lib.hid hb2
              go_wp2
              go_ret
              exact ⟨rfl, hB.out⟩
            | true =>
              have h7 : qd = true := by
                have : tx.toList = [] := by simpa using h6
                rw [this] at hb2; simpa using hb2
              subst h7
              replace hb := Lib.hid hb
              replace h4' := Lib.hid h4'
              replace h5 := Lib.hid h5
              replace hb2 := Lib.hid hb2
              go_wp2
              go_ret
              exact ⟨rfl, hB.out⟩
structure OvS (w : World) (o : Obj) (seen : List ByteArray) (wr : World) : Prop where
  box : wr.heap[w.heap.size]? = some o
  map : MapS sk wr (w.heap.size + 1) (sf seen)
  bel : Below w.heap.size w wr
theorem OvS.tch {w wr wx : World} {o : Obj} {seen : List ByteArray} (h : OvS w o seen wr) (t : Tch No wr wx) : OvS w o seen wx :=
  ⟨(t.block _ (Array.getElem?_eq_some_iff.1 h.box).1 id).trans h.box, h.map.tch t id, Tch.below h.bel t h.bel.size (fun _ h => h.elim)⟩
theorem OvS.store {w wr : World} {o : Obj} {seen : List ByteArray} (h : OvS w o seen wr) (k : ByteArray) : ∃ wm, (Instr.mapUpdate 106 (.map (some (w.heap.size + 1))) (.string k) (.bool true)).run Try.prog wr = .ok () wm ∧ OvS w o (k :: seen) wm ∧ Tch (fun b => b = w.heap.size + 1) wr wm := by
  obtain ⟨wm, hrun, hM, hT⟩ := h.map.store (t := 106) Try.underlying106 k (.bool true)
  have t : Tch (fun b => b = w.heap.size + 1) wr wm := Tch.turned hT rfl
  exact ⟨wm, hrun, ⟨(t.block _ (Array.getElem?_eq_some_iff.1 h.box).1 (by omega)).trans h.box, hM.congr (fun x => sf_add seen k x), Tch.below h.bel t h.bel.size (fun k e => by omega)⟩, t⟩
theorem OvS.look {w wr : World} {o : Obj} {seen : List ByteArray} (h : OvS w o seen wr) (k : ByteArray) : (Instr.lookup 106 (.map (some (w.heap.size + 1))) (.string k) false).run Try.prog wr = .ok (.bool (seen.any fun x => decide (x = k))) wr := by
  have hl : (Instr.lookup 106 (.map (some (w.heap.size + 1))) (.string k) false).run Try.prog wr = .ok ((sf seen k).getD (.bool false)) wr := h.map.look (t := 106) (e := 4) Try.underlying106 (zero4 wr) false k
  rw [hl]
  unfold sf
  cases (seen.any fun x => decide (x = k)) <;> rfl
theorem over_good (ns : List Nd) (v : Value) (f : Nat) (ih : OverOK ns v f) (d : Nat) (w : World) (i : Nat) (n : Nd) (hd : d + (f + 1) = 17) (hN : NdV w v ns) (hn : ns[i]? = some n) (hb : badN n = false) : Calls Try.prog 39 #[v, .int .i64 i, .int .i64 d] w fun e w' => e = .returned (.int .i64 (overK ns (overR ns f) n.kind ((i : Int) + 1) [] n.kids)) ∧ Below w.heap.size w w' := by
  obtain ⟨ao, cap, rfl⟩ := hN.shape
  obtain ⟨g, off, kv, rfl, hg, c0, c1, c2, c3, c4, c5, hk⟩ := hN.at hn
  obtain ⟨ko, kcap, rfl⟩ := hk.shape
  have hi := (List.getElem?_eq_some_iff.1 hn).1
  have hlen := hN.1
  have k0 : (0 : Int) ≤ i := Int.natCast_nonneg i
  have k0' : decide ((i : Int) < 0) = false := decide_eq_false (by omega)
  have k2 : (i : Int) < (ns.length : Int) := by omega
  have k2' : decide ((ns.length : Int) ≤ (i : Int)) = false := decide_eq_false (by omega)
  have k2n : decide (ns.length ≤ i) = false := decide_eq_false (by omega)
  have k3' : decide ((16 : Int) < (d : Int)) = false := decide_eq_false (by omega)
  have hw1 : wrap64 ((i : Int) + 1) = (i : Int) + 1 := by unfold wrap64; omega
  obtain ⟨D, hD⟩ : ∃ D, D = d + 1 := ⟨_, rfl⟩
  have hwd : wrap64 ((d : Int) + 1) = (D : Int) := by unfold wrap64; omega
  have hDf : D + f = 17 := by omega
  have hst : OvS w (ndO n (.slice ko n.kids.length kcap)) [] ((w.alloc (ndO n (.slice ko n.kids.length kcap))).alloc (.map #[] 0)) := by
    have h1 := heap_alloc_new w (ndO n (.slice ko n.kids.length kcap))
    have hB := (Below.refl w.heap.size w).alloc (Nat.le_refl _) (ndO n (.slice ko n.kids.length kcap))
    have t : Tch No (w.alloc (ndO n (.slice ko n.kids.length kcap))) ((w.alloc (ndO n (.slice ko n.kids.length kcap))).alloc (.map #[] 0)) := Tch.alloc No _ _
    refine ⟨(t.block _ (Array.getElem?_eq_some_iff.1 h1).1 id).trans h1, ?_, Tch.below hB t hB.size (fun _ h => h.elim)⟩
    have h2 := MapS.made sk (w.alloc (ndO n (.slice ko n.kids.length kcap)))
    rw [World.size_alloc] at h2
    exact h2.congr (fun k => rfl)
  obtain ⟨nk, key, tx, qd, ln, ks⟩ := n
  unfold badN at hb
  unfold ndO at hst
  dsimp only at c0 c1 c2 c3 c4 c5 hst hb hk ⊢
  obtain ⟨m, hm⟩ : ∃ m, m = ks.length := ⟨_, rfl⟩
  have hem : ks.isEmpty = (m == 0) := by rw [hm]; cases ks <;> rfl
  have hml : m ≤ 140737488351232 := by obtain ⟨_, _, _, h, _⟩ := hk; omega
  rw [← hm] at c5 hst hk
  rw [hem] at hb
  simp only [Bool.or_eq_false_iff, decide_eq_false_iff_not] at hb
  obtain ⟨⟨⟨⟨h1, h2⟩, h3⟩, h4⟩, h5⟩ := hb
  have h1' : decide (ln < 0) = false := decide_eq_false h1
  have h2' : decide (nk < 1) = false := decide_eq_false h2
  have h3' : decide (3 < nk) = false := decide_eq_false h3
  clear h1 hem
  have hmm := @run_makeMap Try.prog
  by_cases h6 : nk = 1
  · have h6b : (nk == 1) = true := by rw [beq_iff_eq]; exact h6
    have h6d : decide (nk = 1) = true := decide_eq_true h6
    have h7 : (m == 0) = true := by rw [h6d] at h4; simpa using h4
    have h7d : (m : Int) = 0 := by have : m = 0 := by simpa using h7
                                   omega
    replace hN := Lib.hid hN
    replace hn := Lib.hid hn
    replace hk := Lib.hid hk
    replace hi := Lib.hid hi
    replace hd := Lib.hid hd
    replace hst := Lib.hid hst
    replace hm := Lib.hid hm
    replace h2 := Lib.hid h2
    replace h3 := Lib.hid h3
    replace h4 := Lib.hid h4
    replace h5 := Lib.hid h5
    replace hlen := Lib.hid hlen
    replace hml := Lib.hid hml
    replace ih := Lib.hid ih
    replace hD := Lib.hid hD
    replace hDf := Lib.hid hDf
    replace h6 := Lib.hid h6
    go_enter Try.func39, Try.ntmps39
    go_wp2
    clear c0 c1 c2 c3 c4 c5
    go_loopg [9, 73] (m + 1) (fun gg ev rv wr => ∃ (r : Nat) (e : Int) (seen : List ByteArray), gg = m - r + 1 ∧ ev = .int .i64 e ∧ rv = .int .i64 r ∧ r ≤ m ∧ 0 ≤ e ∧ overK ns (overR ns f) nk ((i : Int) + 1) [] ks = overK ns (overR ns f) nk e seen (ks.drop r) ∧ Hid (OvS w (.cells #[.int .i64 nk, .string key, .string tx, .bool qd, .int .i64 ln, .slice ko m kcap] 58) seen wr))
    case atStart => exact ⟨0, _, [], rfl, rfl, rfl, Nat.zero_le _, by omega, rfl, hst⟩
    case round =>
      obtain ⟨r, e, seen, rfl, rfl, rfl, hrm, he0, hov, hS⟩ := hrel
      by_cases hlt : r < m
      · exfalso
        omega
      · have k4 := nn_ge2 hlt
        have k5 : decide (r < m) = false := decide_eq_false hlt
        rw [show r = m by omega, hm.out, List.drop_length] at hov
        replace hov : overK ns (overR ns f) nk ((i : Int) + 1) [] ks = e := hov
        replace hlt := Lib.hid hlt
        replace hrm := Lib.hid hrm
        replace hov := Lib.hid hov
        replace he0 := Lib.hid he0
        go_wp2
        go_ret
        exact ⟨by rw [hov.out] <;> rfl, hS.out.bel⟩
  · have h6b : (nk == 1) = false := by rw [beq_eq_false_iff_ne]; exact h6
    have h6d : decide (nk = 1) = false := decide_eq_false h6
    have h7 : ¬ m = 0 := by intro e; subst e; rw [h6d] at h4; simp at h4
    have h7b : (m == 0) = false := by rw [beq_eq_false_iff_ne]; exact h7
    have h7d : decide ((m : Int) = 0) = false := decide_eq_false (by omega)
    have h8 : tx.toList.isEmpty = true ∧ qd = false := by rw [h6d] at h5; simpa using h5
    obtain ⟨h8, rfl⟩ := h8
    have h8t : (tx.toList == []) = true := by rw [beq_iff_eq]; exact List.isEmpty_iff.1 h8
    replace hN := Lib.hid hN
    replace hn := Lib.hid hn
    replace hk := Lib.hid hk
    replace hi := Lib.hid hi
    replace hd := Lib.hid hd
    replace hst := Lib.hid hst
    replace hm := Lib.hid hm
    replace h2 := Lib.hid h2
    replace h3 := Lib.hid h3
    replace h4 := Lib.hid h4
    replace h5 := Lib.hid h5
    replace hlen := Lib.hid hlen
    replace hml := Lib.hid hml
    replace ih := Lib.hid ih
    replace hD := Lib.hid hD
    replace hDf := Lib.hid hDf
    replace h6 := Lib.hid h6
    replace h7 := Lib.hid h7
    replace h8 := Lib.hid h8
    go_enter Try.func39, Try.ntmps39
    go_wp2
    clear c0 c1 c2 c3 c4 c5
    go_loopg [9, 73] (m + 1) (fun gg ev rv wr => ∃ (r : Nat) (e : Int) (seen : List ByteArray), gg = m - r + 1 ∧ ev = .int .i64 e ∧ rv = .int .i64 r ∧ r ≤ m ∧ 0 ≤ e ∧ overK ns (overR ns f) nk ((i : Int) + 1) [] ks = overK ns (overR ns f) nk e seen (ks.drop r) ∧ Hid (OvS w (.cells #[.int .i64 nk, .string key, .string tx, .bool false, .int .i64 ln, .slice ko m kcap] 58) seen wr))
    case atStart => exact ⟨0, _, [], rfl, rfl, rfl, Nat.zero_le _, by omega, rfl, hst⟩
    case round =>
      obtain ⟨r, e, seen, rfl, rfl, rfl, hrm, he0, hov, hS⟩ := hrel
      by_cases hlt : r < m
      · have k4 := nn_lt2 hlt
        obtain ⟨x, hx⟩ : ∃ x, ks[r]? = some x := ⟨_, List.getElem?_eq_getElem (by rw [← hm.out]; exact hlt)⟩
        obtain ⟨kg, koff, rfl, hkg, ck⟩ := (hk.out.tch (Tch.of_below hS.out.bel)).at hx
        have hdr : ks.drop r = x :: ks.drop (r + 1) := by
          obtain ⟨hx1, hx2⟩ := List.getElem?_eq_some_iff.1 hx
          rw [List.drop_eq_getElem_cons hx1, hx2]
        rw [hdr] at hov
        have hwk : Hid (wrap64 ((r : Int) + 1) = ((r + 1 : Nat) : Int)) := Lib.hid (by have := hml.out; unfold wrap64; omega)
        have bx : wr.cell? ⟨w.heap.size, 0, none⟩ = some (.int .i64 nk) := cell_of_row _ _ 0 _ _ _ hS.out.box
        by_cases hxe : x = e
        · subst hxe
          by_cases hxl : (ns.length : Int) ≤ x
          · have hr1 : overK ns (overR ns f) nk ((i : Int) + 1) [] ks = -1 := by rw [hov]; unfold overK; rw [if_pos (.inr hxl)]
            replace hlt := Lib.hid hlt
            replace hrm := Lib.hid hrm
            replace hov := Lib.hid hov
            replace he0 := Lib.hid he0
            replace hdr := Lib.hid hdr
            replace hr1 := Lib.hid hr1
            replace hx := Lib.hid hx
            go_wp2
            go_ret
            exact ⟨by rw [hr1.out] <;> rfl, hS.out.bel⟩
          · obtain ⟨j, rfl⟩ : ∃ j : Nat, x = j := ⟨x.toNat, by omega⟩
            have hj : j < ns.length := by omega
            have j1 : decide ((ns.length : Int) ≤ (j : Int)) = false := decide_eq_false (by omega)
            have j2 : decide (ns.length ≤ j) = false := decide_eq_false (by omega)
            have j3 : (j : Int) < (ns.length : Int) := by omega
            obtain ⟨mn, hmn⟩ : ∃ mn, ns[j]? = some mn := ⟨_, List.getElem?_eq_getElem hj⟩
            obtain ⟨g', off', kv', eg, hg', b0, b1, _, _, _, _, _⟩ := (hN.out.tch (Tch.of_below hS.out.bel)).at hmn
            cases eg
            have hov2 : overK ns (overR ns f) nk ((i : Int) + 1) [] ks = if nk = 2 ∧ (seen.any fun x => decide (x = mn.key)) = true ∨ nk = 3 ∧ mn.key.toList ≠ [] then -1 else if overR ns f j < 0 then -1 else overK ns (overR ns f) nk (overR ns f j) (mn.key :: seen) (ks.drop (r + 1)) := by
              rw [hov]
              conv => lhs; unfold overK
              rw [if_neg (by omega)]
              try simp only [Int.toNat_natCast, hmn]
            have lk := hS.out.look mn.key
            obtain ⟨ba, hba⟩ : ∃ ba, (seen.any fun x => decide (x = mn.key)) = ba := ⟨_, rfl⟩
            rw [hba] at hov2 lk
            obtain ⟨kk, hkk⟩ : ∃ kk, kk = mn.key := ⟨_, rfl⟩
            rw [← hkk] at hov2 lk b1
            have hh : ∀ wm, OvS w (.cells #[.int .i64 nk, .string key, .string tx, .bool false, .int .i64 ln, .slice (some ⟨kg, koff, none⟩) m kcap] 58) (kk :: seen) wm → Calls Try.prog 39 #[.slice (some ⟨g, off, none⟩) ns.length cap, .int .i64 j, .int .i64 D] wm fun e w' => e = .returned (.int .i64 (overR ns f j)) ∧ Below wm.heap.size wm w' := fun wm h => ih.out D hDf.out wm j (hN.out.tch (Tch.of_below h.bel))
            obtain ⟨E, hE⟩ : ∃ E, E = overR ns f j := ⟨_, rfl⟩
            rw [← hE] at hov2 hh
            replace hlt := Lib.hid hlt
            replace hrm := Lib.hid hrm
            replace hov := Lib.hid hov
            replace he0 := Lib.hid he0
            replace hdr := Lib.hid hdr
            replace hx := Lib.hid hx
            replace hmn := Lib.hid hmn
            replace hkk := Lib.hid hkk
            replace hj := Lib.hid hj
            replace hE := Lib.hid hE
            replace hh := Lib.hid hh
            by_cases q2 : nk = 2
            · have q2b : (nk == 2) = true := by rw [beq_iff_eq]; exact q2
              cases ba with
              | true =>
                have hr1 : overK ns (overR ns f) nk ((i : Int) + 1) [] ks = -1 := by rw [hov2, if_pos (.inl ⟨q2, rfl⟩)]
                replace hr1 := Lib.hid hr1
                replace hov2 := Lib.hid hov2
                replace q2 := Lib.hid q2
                go_wp2
                go_ret
                exact ⟨by rw [hr1.out] <;> rfl, hS.out.bel⟩
              | false =>
                have q3 : (nk == 3) = false := by rw [q2]; rfl
                have hov3 := hov2
                rw [if_neg (by rw [q2]; simp)] at hov3
                replace q2 := Lib.hid q2
                obtain ⟨wm, hrun, hSm, tm⟩ := hS.out.store kk
                have hC := Lib.hid (hh.out wm hSm)
                replace hSm := Lib.hid hSm
                replace tm := Lib.hid tm
                replace hov3 := Lib.hid hov3
                replace hov2 := Lib.hid hov2
                go_upto_region 19 with (first
                  | (go_at_call 39; (with_reducible refine hC.out.mono ?_); rintro ev wy ⟨rfl, hy⟩; have hSy := Lib.hid (hSm.out.tch (Tch.of_below hy)); clear hy)
                  | fail)
                clear lk hrun
                by_cases hneg : E < 0
                · have hr1 : overK ns (overR ns f) nk ((i : Int) + 1) [] ks = -1 := by rw [hov3.out, if_pos hneg]
                  replace hr1 := Lib.hid hr1
                  go_wp2
                  go_ret
                  exact ⟨by rw [hr1.out] <;> rfl, hSy.out.bel⟩
                · have hneg' : decide (E < 0) = false := decide_eq_false hneg
                  have hr1 : overK ns (overR ns f) nk ((i : Int) + 1) [] ks = overK ns (overR ns f) nk E (kk :: seen) (ks.drop (r + 1)) := by rw [hov3.out, if_neg hneg]
                  replace hr1 := Lib.hid hr1
                  replace hneg := Lib.hid hneg
                  go_wp2
                  go_roundg (m - (r + 1) + 1)
                  case rel => exact ⟨r + 1, E, kk :: seen, rfl, rfl, by rw [hwk.out], hlt.out, by have := hneg.out; omega, hr1.out, hSy⟩
                  case measure => exact nn_down hlt.out
            · have q2b : (nk == 2) = false := by rw [beq_eq_false_iff_ne]; exact q2
              by_cases q3 : nk = 3
              · have q3b : (nk == 3) = true := by rw [beq_iff_eq]; exact q3
                cases hke : (kk.toList == []) with
                | false =>
                  have hne : kk.toList ≠ [] := by intro e; rw [e] at hke; cases hke
                  have hr1 : overK ns (overR ns f) nk ((i : Int) + 1) [] ks = -1 := by rw [hov2, if_pos (.inr ⟨q3, hne⟩)]
                  replace hr1 := Lib.hid hr1
                  replace hov2 := Lib.hid hov2
                  replace q2 := Lib.hid q2
                  replace q3 := Lib.hid q3
                  replace hne := Lib.hid hne
                  go_wp2
                  go_ret
                  exact ⟨by rw [hr1.out] <;> rfl, hS.out.bel⟩
                | true =>
                  have hov3 := hov2
                  rw [if_neg (by rintro (⟨h, _⟩ | ⟨_, h⟩); exact q2 h; exact h (eq_of_beq hke))] at hov3
                  replace q2 := Lib.hid q2
                  replace q3 := Lib.hid q3
                  obtain ⟨wm, hrun, hSm, tm⟩ := hS.out.store kk
                  have hC := Lib.hid (hh.out wm hSm)
                  replace hSm := Lib.hid hSm
                  replace tm := Lib.hid tm
                  replace hov3 := Lib.hid hov3
                  replace hov2 := Lib.hid hov2
                  go_upto_region 19 with (first
                    | (go_at_call 39; (with_reducible refine hC.out.mono ?_); rintro ev wy ⟨rfl, hy⟩; have hSy := Lib.hid (hSm.out.tch (Tch.of_below hy)); clear hy)
                    | fail)
                  clear lk hrun
                  by_cases hneg : E < 0
                  · have hr1 : overK ns (overR ns f) nk ((i : Int) + 1) [] ks = -1 := by rw [hov3.out, if_pos hneg]
                    replace hr1 := Lib.hid hr1
                    go_wp2
                    go_ret
                    exact ⟨by rw [hr1.out] <;> rfl, hSy.out.bel⟩
                  · have hneg' : decide (E < 0) = false := decide_eq_false hneg
                    have hr1 : overK ns (overR ns f) nk ((i : Int) + 1) [] ks = overK ns (overR ns f) nk E (kk :: seen) (ks.drop (r + 1)) := by rw [hov3.out, if_neg hneg]
                    replace hr1 := Lib.hid hr1
                    replace hneg := Lib.hid hneg
                    go_wp2
                    go_roundg (m - (r + 1) + 1)
                    case rel => exact ⟨r + 1, E, kk :: seen, rfl, rfl, by rw [hwk.out], hlt.out, by have := hneg.out; omega, hr1.out, hSy⟩
                    case measure => exact nn_down hlt.out
              · have q3b : (nk == 3) = false := by rw [beq_eq_false_iff_ne]; exact q3
                have hov3 := hov2
                rw [if_neg (by rintro (⟨h, _⟩ | ⟨h, _⟩); exact q2 h; exact q3 h)] at hov3
                replace q2 := Lib.hid q2
                replace q3 := Lib.hid q3
                obtain ⟨wm, hrun, hSm, tm⟩ := hS.out.store kk
                have hC := Lib.hid (hh.out wm hSm)
                replace hSm := Lib.hid hSm
                replace tm := Lib.hid tm
                replace hov3 := Lib.hid hov3
                replace hov2 := Lib.hid hov2
                go_upto_region 19 with (first
                  | (go_at_call 39; (with_reducible refine hC.out.mono ?_); rintro ev wy ⟨rfl, hy⟩; have hSy := Lib.hid (hSm.out.tch (Tch.of_below hy)); clear hy)
                  | fail)
                clear lk hrun
                by_cases hneg : E < 0
                · have hr1 : overK ns (overR ns f) nk ((i : Int) + 1) [] ks = -1 := by rw [hov3.out, if_pos hneg]
                  replace hr1 := Lib.hid hr1
                  go_wp2
                  go_ret
                  exact ⟨by rw [hr1.out] <;> rfl, hSy.out.bel⟩
                · have hneg' : decide (E < 0) = false := decide_eq_false hneg
                  have hr1 : overK ns (overR ns f) nk ((i : Int) + 1) [] ks = overK ns (overR ns f) nk E (kk :: seen) (ks.drop (r + 1)) := by rw [hov3.out, if_neg hneg]
                  replace hr1 := Lib.hid hr1
                  replace hneg := Lib.hid hneg
                  go_wp2
                  go_roundg (m - (r + 1) + 1)
                  case rel => exact ⟨r + 1, E, kk :: seen, rfl, rfl, by rw [hwk.out], hlt.out, by have := hneg.out; omega, hr1.out, hSy⟩
                  case measure => exact nn_down hlt.out
        · have hr1 : overK ns (overR ns f) nk ((i : Int) + 1) [] ks = -1 := by rw [hov]; unfold overK; rw [if_pos (.inl hxe)]
          have hxb : (x == e) = false := by rw [beq_eq_false_iff_ne]; exact hxe
          have hxb2 : (x != e) = true := by simp [bne, hxb]
          replace hlt := Lib.hid hlt
          replace hrm := Lib.hid hrm
          replace hov := Lib.hid hov
          replace he0 := Lib.hid he0
          replace hdr := Lib.hid hdr
          replace hr1 := Lib.hid hr1
          replace hx := Lib.hid hx
          replace hxe := Lib.hid hxe
          go_wp2
          go_ret
          exact ⟨by rw [hr1.out] <;> rfl, hS.out.bel⟩
      · have k4 := nn_ge2 hlt
        have k5 : decide (r < m) = false := decide_eq_false hlt
        rw [show r = m by omega, hm.out, List.drop_length] at hov
        replace hov : overK ns (overR ns f) nk ((i : Int) + 1) [] ks = e := hov
        replace hlt := Lib.hid hlt
        replace hrm := Lib.hid hrm
        replace hov := Lib.hid hov
        replace he0 := Lib.hid he0
        go_wp2
        go_ret
        exact ⟨by rw [hov.out] <;> rfl, hS.out.bel⟩
theorem overN_any (ns : List Nd) (v : Value) : ∀ f, OverOK ns v f := by
  intro f
  induction f with
  | zero =>
    intro d hd w k hN
    exact over_out ns v 0 d w k hN rfl (.inr (.inr (by omega)))
  | succ f ih =>
    intro d hd w k hN
    by_cases h : k < 0 ∨ (ns.length : Int) ≤ k
    · exact over_out ns v (f + 1) d w k hN (by unfold overR; rw [if_pos h]) (by omega)
    · obtain ⟨i, rfl⟩ : ∃ i : Nat, k = i := ⟨k.toNat, by omega⟩
      obtain ⟨n, hn⟩ : ∃ n, ns[i]? = some n := ⟨_, List.getElem?_eq_getElem (by omega)⟩
      have hr : overR ns (f + 1) i = if badN n = true then -1 else overK ns (overR ns f) n.kind ((i : Int) + 1) [] n.kids := by
        conv => lhs; unfold overR
        rw [if_neg h]
        simp only [Int.toNat_natCast, hn]
      rw [hr]
      cases hb : badN n with
      | true =>
        rw [if_pos rfl]
        exact over_bad ns v d w i n (by omega) hN hn hb
      | false =>
        rw [if_neg (by decide)]
        exact over_good ns v f ih d w i n hd hN hn hb
end Go.Proofs.Ytcnjmkjfgghgoaa
end
