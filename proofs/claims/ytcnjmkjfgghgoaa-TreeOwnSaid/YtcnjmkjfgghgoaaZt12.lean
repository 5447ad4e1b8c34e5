/- told: walked. -/
import Derived.Test.YtcnjmkjfgghgoaaZt11
section

namespace Go.Tr
theorem keysFrom_snoc (f : Nat → Bool) (l : List Nd) (n : Nd) : keysFrom f 0 (l ++ [n]) = keysFrom f 0 l ++ (if f l.length then [n.key] else []) := by
  rw [keysFrom_append]
  simp [keysFrom]
theorem textsN_snoc (l : List Nd) (n : Nd) : textsN (l ++ [n]) = textsN l ++ (if (decide (n.kind = 1) && said n.text n.quoted) = true then [n.text] else []) := by
  rw [textsN_append]
  congr 1
  simp only [textsN, List.filter_cons, List.filter_nil]
  split <;> rfl
theorem kOf_snoc (l : List Tok) (t : Tok) : kOf (l ++ [t]) = kOf l ++ (if t.kind = 3 then [t.text] else []) := by
  rw [kOf_append]
  congr 1
  simp only [kOf, List.filter_cons, List.filter_nil, decide_eq_true_eq]
  split <;> rfl
theorem xOf_snoc (l : List Tok) (t : Tok) : xOf (l ++ [t]) = xOf l ++ (if (decide (t.kind = 4) && said t.text t.quoted) = true then [t.text] else []) := by
  rw [xOf_append]
  congr 1
  simp only [xOf, List.filter_cons, List.filter_nil]
  split <;> rfl
theorem mp_snoc (l : List Nd) (n : Nd) (j : Nat) : mp (l ++ [n]) j = (mp l j || (decide (n.kind = 2) && n.kids.any fun k => decide (k = (j : Int)))) := by
  rw [mp_append]; simp [mp]
theorem keysFrom_len (f : Nat → Bool) : ∀ (b : Nat) (l : List Nd), (keysFrom f b l).length ≤ l.length
  | _, [] => Nat.le_refl _
  | b, n :: l => by
    have := keysFrom_len f (b + 1) l
    simp only [keysFrom, List.length_append, List.length_cons]
    split <;> simp <;> omega
theorem textsN_len (l : List Nd) : (textsN l).length ≤ l.length := by
  unfold textsN; rw [List.length_map]; exact List.length_filter_le _ _
theorem kOf_len (l : List Tok) : (kOf l).length ≤ l.length := by
  unfold kOf; rw [List.length_map]; exact List.length_filter_le _ _
theorem xOf_len (l : List Tok) : (xOf l).length ≤ l.length := by
  unfold xOf; rw [List.length_map]; exact List.length_filter_le _ _
theorem take_snoc {α : Type} {l : List α} {i : Nat} {a : α} (h : l[i]? = some a) : l.take (i + 1) = l.take i ++ [a] := by
  obtain ⟨q1, q2⟩ := List.getElem?_eq_some_iff.1 h
  rw [List.take_succ_eq_append_getElem q1, q2]
end Go.Tr
namespace Go.Proofs.Ytcnjmkjfgghgoaa
open Go.RowKit Go.Mp Go.Tr
set_option linter.unusedVariables false
set_option maxRecDepth 100000
set_option maxHeartbeats 4000000
structure MapR (w0 wr : World) (n : Nat) (f : Nat → Bool) : Prop where
  row : ∃ bs : List Bool, bs.length = n ∧ (∀ j, j < n → bs[j]? = some (f j)) ∧ wr.ownsRow w0.heap.size 4 1 (.slice (some ⟨w0.heap.size, 0, none⟩) n n) n (bcells bs)
  t : Tch No w0 wr
theorem MapR.congr {w0 wr : World} {n : Nat} {f f' : Nat → Bool} (h : MapR w0 wr n f) (e : ∀ j, j < n → f j = f' j) : MapR w0 wr n f' := by
  obtain ⟨⟨bs, h1, h2, h3⟩, t⟩ := h
  exact ⟨⟨bs, h1, fun j hj => by rw [h2 j hj, e j hj], h3⟩, t⟩
theorem MapR.at {w0 wr : World} {n : Nat} {f : Nat → Bool} (h : MapR w0 wr n f) {j : Nat} (hj : j < n) : wr.cell? ⟨w0.heap.size, j, none⟩ = some (.bool (f j)) ∧ wr.frozen? ⟨w0.heap.size, j, none⟩ = false := by
  obtain ⟨⟨bs, h1, h2, h3⟩, t⟩ := h
  exact brow_at h3 (h2 j hj)
theorem MapR.mark {w0 wr : World} {n : Nat} {f : Nat → Bool} (h : MapR w0 wr n f) {j : Nat} (hj : j < n) : MapR w0 (wr.setCell ⟨w0.heap.size, j, none⟩ (.bool true)) n (fun x => f x || decide (x = j)) := by
  obtain ⟨⟨bs, h1, h2, h3⟩, t⟩ := h
  refine ⟨⟨bs.set j true, by simp [h1], fun x hx => ?_, ?_⟩, t.trans (Tch.setCell (S := fun k => k = w0.heap.size) wr (p := ⟨w0.heap.size, j, none⟩) rfl _) (fun k hk => .inr (by rw [hk]; exact Nat.le_refl _))⟩
  · by_cases e : x = j
    · subst e
      rw [List.getElem?_set_self (by omega)]; simp
    · rw [List.getElem?_set_ne (fun q => e q.symm), h2 x hx]; simp [e]
  · have hs := (h3.stored j (.bool true)).1
    have e : (bcells bs).set j (.bool true) = bcells (bs.set j true) := by simp [bcells, List.map_set]
    rw [e] at hs
    exact hs
theorem MapR.tch {w0 wr w2 : World} {n : Nat} {f : Nat → Bool} (h : MapR w0 wr n f) (t : Tch No wr w2) : MapR w0 w2 n f := by
  obtain ⟨⟨bs, h1, h2, h3⟩, tt⟩ := h
  exact ⟨⟨bs, h1, h2, ownsRow_tch h3 t (fun _ _ h => h)⟩, tt.trans t (fun _ h => h.elim)⟩
theorem told_any {w : World} {kb : Nat} {v lv : Value} {ns : List Nd} {l : List Tok} (hN : NdV w v ns) (hn96 : ns.length ≤ 4096) (hkr : ∀ n ∈ ns, n.kids.length ≤ 4096 ∧ ∀ k ∈ n.kids, 0 ≤ k ∧ k < (ns.length : Int)) (tk : TokS w kb lv l) (hkw : kb < w.heap.size ∨ l = []) (hll : l.length < 2932031007400) (hk : keysN ns = kOf l) (hx : textsN ns = xOf l) :
    Calls Try.prog 23 #[v, lv] w fun e w' => e = .returned (.bool true) ∧ Tch No w w' := by
  obtain ⟨ao, cap, rfl⟩ := hN.shape
  obtain ⟨lo, lcap, rfl, _⟩ := id tk
  obtain ⟨i0, hi, hz0, hz1, hz2⟩ := info_parts info9
  obtain ⟨ib, hbi, hbz0, hbz1, hbz2⟩ := info_parts info4
  obtain ⟨n, hnn⟩ : ∃ n, n = ns.length := ⟨_, rfl⟩
  rw [← hnn] at hn96
  have hmk := run_make (P := Try.prog) w 80 4 ib (.bool false) Try.underlying80 hbi hbz0 .i64 .i64 (n : Int) (n : Int) (Int.natCast_nonneg _) (Int.le_refl _) (by rw [hbz2]; omega) (by omega)
  rw [hbz1, Int.toNat_natCast] at hmk
  obtain ⟨w1, hw1⟩ : ∃ w1, w1 = w.alloc (.cells (madeCells (Value.bool false).cells (n * 1)) 4) := ⟨_, rfl⟩
  rw [← hw1] at hmk
  have hM1 : MapR w w1 n (mp (ns.take 0)) := ⟨⟨List.replicate n false, by simp, fun j hj => by rw [List.getElem?_replicate]; simp [hj, mp], by rw [hw1]; exact made_row w n hn96⟩, by rw [hw1]; exact Tch.alloc No w _⟩
  obtain ⟨f, hf⟩ : ∃ f, f = mp ns := ⟨_, rfl⟩
  rw [← hnn] at hkr ⊢
  replace hi := Lib.hid hi
  replace hz0 := Lib.hid hz0
  replace hz1 := Lib.hid hz1
  replace hz2 := Lib.hid hz2
  replace hbi := Lib.hid hbi
  replace hbz0 := Lib.hid hbz0
  replace hbz1 := Lib.hid hbz1
  replace hbz2 := Lib.hid hbz2
  replace hnn := Lib.hid hnn
  replace hn96 := Lib.hid hn96
  replace hw1 := Lib.hid hw1
  replace hM1 := Lib.hid hM1
  replace hf := Lib.hid hf
  replace hN := Lib.hid hN
  replace hkr := Lib.hid hkr
  replace tk := Lib.hid tk
  replace hkw := Lib.hid hkw
  replace hll := Lib.hid hll
  replace hk := Lib.hid hk
  replace hx := Lib.hid hx
  go_enter Try.func23, Try.ntmps23
  go_wp2
  clear hmk
  go_loopg [10] (n + 1) (fun gg iv wr => ∃ i : Nat, gg = n - i + 1 ∧ iv = .int .i64 i ∧ i ≤ n ∧ Hid (MapR w wr n (mp (ns.take i))))
  case atStart => exact ⟨0, rfl, rfl, Nat.zero_le _, hM1⟩
  case round =>
    obtain ⟨i, rfl, rfl, hil, hM⟩ := hrel
    by_cases hlt : i < n
    · have k0 := nn_lt hlt
      obtain ⟨nd, hnd⟩ : ∃ nd, ns[i]? = some nd := ⟨_, List.getElem?_eq_getElem (by rw [← hnn.out]; exact hlt)⟩
      obtain ⟨g, off, kv, rfl, hg, c0, _, _, _, _, c5, hkd⟩ := (hN.out.tch hM.out.t).at hnd
      obtain ⟨ko, kcap, rfl⟩ := hkd.shape
      obtain ⟨b1, b2⟩ := hkr.out nd (List.mem_of_getElem? hnd)
      have hts := take_snoc hnd
      obtain ⟨nk, key, tx, qd, ln, ks⟩ := nd
      dsimp only at c0 c5 hkd b1 b2
      by_cases h2 : nk = 2
      · subst h2
        obtain ⟨m, hm⟩ : ∃ m, m = ks.length := ⟨_, rfl⟩
        rw [← hm] at c5 hkd b1
        replace hnd := Lib.hid hnd
        replace hkd := Lib.hid hkd
        replace b1 := Lib.hid b1
        replace b2 := Lib.hid b2
        replace hts := Lib.hid hts
        replace hil := Lib.hid hil
        replace hm := Lib.hid hm
        replace hg := Lib.hid hg
        go_wp2
        go_loopg [11] (m + 1) (fun g2 kv2 wr => ∃ k : Nat, g2 = m - k + 1 ∧ kv2 = .int .i64 k ∧ k ≤ m ∧ Hid (MapR w wr n (fun j => mp (ns.take i) j || (ks.take k).any fun x => decide (x = (j : Int)))))
        case atStart => exact ⟨0, rfl, rfl, Nat.zero_le _, Lib.hid (hM.out.congr (fun j _ => by simp))⟩
        case round =>
          obtain ⟨k, rfl, rfl, hkm, hMk⟩ := hrel
          obtain ⟨g', off', kv', eg, hg', d0, _, _, _, _, d5, hkd'⟩ := (hN.out.tch hMk.out.t).at hnd.out
          cases eg
          obtain ⟨ko', kcap', rfl⟩ := hkd'.shape
          dsimp only at d0 d5 hkd'
          rw [← hm.out] at d5 hkd'
          clear c0 c5
          by_cases hk2 : k < m
          · have j0 := nn_lt hk2
            obtain ⟨x, hx2⟩ : ∃ x, ks[k]? = some x := ⟨_, List.getElem?_eq_getElem (by rw [← hm.out]; exact hk2)⟩
            obtain ⟨x0, x1⟩ := b2.out x (List.mem_of_getElem? hx2)
            obtain ⟨y, rfl⟩ : ∃ y : Nat, x = y := ⟨x.toNat, by omega⟩
            have hyn : y < n := by omega
            obtain ⟨kg, koff, rfl, _, e5⟩ := hkd'.at hx2
            obtain ⟨q1, q2⟩ := hMk.out.at hyn
            have hMm := (hMk.out.mark hyn).congr (f' := fun j => mp (ns.take i) j || (ks.take (k + 1)).any fun x => decide (x = (j : Int))) (fun j hj => by
              rw [take_snoc hx2, List.any_append]
              simp only [List.any_cons, List.any_nil, Bool.or_false, Bool.or_assoc]
              congr 2
              by_cases e : j = y
              · subst e; simp
              · rw [decide_eq_false e, decide_eq_false (by omega)])
            obtain ⟨w5, hw5⟩ : ∃ w5, w5 = wr.setCell ⟨w.heap.size, y, none⟩ (.bool true) := ⟨_, rfl⟩
            rw [← hw5] at hMm
            obtain ⟨ob, hob⟩ : ∃ ob, ob = (mp (ns.take i) y || (ks.take k).any fun x => decide (x = (y : Int))) := ⟨_, rfl⟩
            rw [← hob] at q1
            replace hMm := Lib.hid hMm
            replace hx2 := Lib.hid hx2
            replace hkm := Lib.hid hkm
            replace hob := Lib.hid hob
            replace hkd' := Lib.hid hkd'
            go_wp2
            rw [← hw5]
            replace hw5 := Lib.hid hw5
            go_roundg (m - (k + 1) + 1)
            case rel => exact ⟨k + 1, rfl, by rw [nn_succ hk2 (by have := b1.out; omega)], hk2, hMm⟩
            case measure => exact nn_down2 hk2
          · have j0 := nn_ge hk2
            have j1 : decide (k < m) = false := decide_eq_false hk2
            have hMm : Hid (MapR w wr n (mp (ns.take (i + 1)))) := Lib.hid (hMk.out.congr (fun j hj => by
              rw [hts.out, mp_snoc, show ks.take k = ks from List.take_of_length_le (by rw [← hm.out]; omega)]
              simp))
            replace hkm := Lib.hid hkm
            replace hk2 := Lib.hid hk2
            replace hkd' := Lib.hid hkd'
            go_wp2
            go_roundg (n - (i + 1) + 1)
            case rel => exact ⟨i + 1, rfl, by rw [nn_succ hlt (by have := hn96.out; omega)], hlt, hMm⟩
            case measure => exact nn_down2 hlt
      · have h2b : (nk == 2) = false := by rw [beq_eq_false_iff_ne]; exact h2
        have hMm : Hid (MapR w wr n (mp (ns.take (i + 1)))) := Lib.hid (hM.out.congr (fun j hj => by
          rw [hts, mp_snoc]
          simp [h2]))
        replace hnd := Lib.hid hnd
        replace hkd := Lib.hid hkd
        replace b1 := Lib.hid b1
        replace b2 := Lib.hid b2
        replace hts := Lib.hid hts
        replace hil := Lib.hid hil
        replace hg := Lib.hid hg
        replace h2 := Lib.hid h2
        go_wp2
        go_roundg (n - (i + 1) + 1)
        case rel => exact ⟨i + 1, rfl, by rw [nn_succ hlt (by have := hn96.out; omega)], hlt, hMm⟩
        case measure => exact nn_down2 hlt
    · have k0 := nn_ge hlt
      have k1 : decide (i < n) = false := decide_eq_false hlt
      have hMf : MapR w wr n f := hM.out.congr (fun j hj => by rw [List.take_of_length_le (by rw [← hnn.out]; omega), hf.out])
      obtain ⟨w3, hw3⟩ : ∃ w3, w3 = wr := ⟨_, rfl⟩
      subst hw3
      have hT0 := Lib.hid (TwoS.nil w3)
      replace hM := Lib.hid hM
      replace hMf := Lib.hid hMf
      replace hil := Lib.hid hil
      replace hlt := Lib.hid hlt
      go_wp2
      go_loopg [5, 6, 12] (n + 1) (fun gg kv xv iv wx => ∃ i : Nat, gg = n - i + 1 ∧ iv = .int .i64 i ∧ i ≤ n ∧ Hid (TwoS w3 wx kv xv (keysFrom f 0 (ns.take i)) (textsN (ns.take i))))
      case atStart => exact ⟨0, rfl, rfl, Nat.zero_le _, hT0⟩
      case round =>
        obtain ⟨i, rfl, rfl, hil, hT⟩ := hrel
        have hkl : (keysFrom f 0 (ns.take i)).length ≤ 4096 := by have h1 := keysFrom_len f 0 (ns.take i); have h2 := List.length_take_le i ns; have := hn96.out; have := hnn.out; omega
        have hxl : (textsN (ns.take i)).length ≤ 4096 := by have h1 := textsN_len (ns.take i); have h2 := List.length_take_le i ns; have := hn96.out; have := hnn.out; omega
        obtain ⟨kl, hkle⟩ : ∃ kl, kl = keysFrom f 0 (ns.take i) := ⟨_, rfl⟩
        obtain ⟨xl, hxle⟩ : ∃ xl, xl = textsN (ns.take i) := ⟨_, rfl⟩
        rw [← hkle] at hT hkl
        rw [← hxle] at hT hxl
        obtain ⟨ko, kc, rfl⟩ := ownsRow_shape hT.out.rk
        obtain ⟨xo, xc, rfl⟩ := ownsRow_shape hT.out.rx
        by_cases hlt : i < n
        · have k0 := nn_lt hlt
          obtain ⟨nd, hnd⟩ : ∃ nd, ns[i]? = some nd := ⟨_, List.getElem?_eq_getElem (by rw [← hnn.out]; exact hlt)⟩
          obtain ⟨g, off, kv, rfl, hg, c0, c1, c2, c3, _, _, _⟩ := (hN.out.tch (hMf.out.t.trans hT.out.t (fun _ h => h.elim))).at hnd
          have hts := take_snoc hnd
          have hkn : keysFrom f 0 (ns.take (i + 1)) = kl ++ (if f i then [nd.key] else []) := by
            rw [hts, keysFrom_snoc, ← hkle, List.length_take, Nat.min_eq_left (by rw [← hnn.out]; omega)]
          have hxn : textsN (ns.take (i + 1)) = xl ++ (if (decide (nd.kind = 1) && said nd.text nd.quoted) = true then [nd.text] else []) := by
            rw [hts, textsN_snoc, ← hxle]
          obtain ⟨m0, _⟩ := (hMf.out.tch hT.out.t).at hlt
          obtain ⟨nk, key, tx, qd, ln, ks⟩ := nd
          dsimp only at c0 c1 c2 c3 hkn hxn
          obtain ⟨fi, hfi⟩ : ∃ fi, fi = f i := ⟨_, rfl⟩
          rw [← hfi] at m0 hkn
          have hBw := Lib.hid hT.out.t.size
          replace hkle := Lib.hid hkle
          replace hxle := Lib.hid hxle
          replace hnd := Lib.hid hnd
          replace hts := Lib.hid hts
          replace hkn := Lib.hid hkn
          replace hxn := Lib.hid hxn
          replace hfi := Lib.hid hfi
          replace hil := Lib.hid hil
          replace hg := Lib.hid hg
          replace hkl := Lib.hid hkl
          replace hxl := Lib.hid hxl
          go_upto_if 58 with fail
          go_cut [5] (fun kq wx => Hid (TwoS w3 wx kq (.slice xo xl.length xc) (kl ++ (if fi then [key] else [])) xl))
          case first =>
            cases fi with
            | true =>
              go_wp2_with (first
                | (at_builtin; refine wp_append_us rfl _ _ 79 (by rfl) w3.heap.size 9 i0 (.string ⟨#[]⟩) 1 16 Try.underlying79 hi.out hz0.out hz1.out hz2.out rfl (by decide) _ kl.length _ (by rfl) hT.out.rk 1 (by rfl) rfl (by simp [Value.oneCell']) (by have := hkl.out; unfold maxLen; omega) (by have := hkl.out; omega) hBw.out ?_; intro v7 w7 hr7 hg7 hl7; have hT7 := Lib.hid (hT.out.addK hr7 hg7 hl7); replace hr7 := Lib.hid hr7; replace hg7 := Lib.hid hg7; replace hl7 := Lib.hid hl7)
                | fail)
              go_meet
              exact hT7
            | false =>
              go_wp2
              go_meet
              exact Lib.hid (by simpa using hT.out)
          case rest =>
            clear c0 c1 c2 c3 m0
            obtain ⟨g9, off9, kv9, eg, hg9, c0, _, c2, c3, _, _, _⟩ := (hN.out.tch (hMf.out.t.trans hcut.out.t (fun _ h => h.elim))).at hnd.out
            cases eg
            dsimp only at c0 c2 c3
            obtain ⟨kl2, hkl2⟩ : ∃ kl2, kl2 = kl ++ (if fi then [key] else []) := ⟨_, rfl⟩
            have hkn2 : keysFrom f 0 (ns.take (i + 1)) = kl2 := by rw [hkn.out, hkl2]
            rw [← hkl2] at hcut
            obtain ⟨ko2, kc2, rfl⟩ := ownsRow_shape hcut.out.rk
            have hBw2 := Lib.hid hcut.out.t.size
            replace hkl2 := Lib.hid hkl2
            replace hkn2 := Lib.hid hkn2
            replace hg9 := Lib.hid hg9
            by_cases h1 : nk = 1
            · have h1b : (nk == 1) = true := by rw [beq_iff_eq]; exact h1
              cases h2 : (tx.toList == []) with
              | false =>
                have hxn2 : textsN (ns.take (i + 1)) = xl ++ [tx] := by rw [hxn.out, if_pos (by unfold said; rw [h2]; simp [h1])]
                replace hxn2 := Lib.hid hxn2
                replace h1 := Lib.hid h1
                go_upto_region 13 with (first
                  | (at_builtin; refine wp_append_us rfl _ _ 79 (by rfl) w3.heap.size 9 i0 (.string ⟨#[]⟩) 1 16 Try.underlying79 hi.out hz0.out hz1.out hz2.out rfl (by decide) _ xl.length _ (by rfl) hcut.out.rx 1 (by rfl) rfl (by simp [Value.oneCell']) (by have := hxl.out; unfold maxLen; omega) (by have := hxl.out; omega) hBw2.out ?_; intro v7 w7 hr7 hg7 hl7; have hT7 := hcut.out.addX hr7 hg7 hl7; rw [← hxn2.out] at hT7; replace hT7 := Lib.hid hT7; replace hr7 := Lib.hid hr7; replace hg7 := Lib.hid hg7; replace hl7 := Lib.hid hl7)
                  | fail)
                go_wp2
                go_roundg (n - (i + 1) + 1)
                case rel => exact ⟨i + 1, rfl, by rw [nn_succ hlt (by have := hn96.out; omega)], hlt, Lib.hid (by rw [hkn2.out]; exact hT7.out)⟩
                case measure => exact nn_down2 hlt
              | true =>
                cases qd with
                | true =>
                  have hxn2 : textsN (ns.take (i + 1)) = xl ++ [tx] := by rw [hxn.out, if_pos (by unfold said; rw [h2]; simp [h1])]
                  replace hxn2 := Lib.hid hxn2
                  replace h1 := Lib.hid h1
                  go_upto_region 13 with (first
                    | (at_builtin; refine wp_append_us rfl _ _ 79 (by rfl) w3.heap.size 9 i0 (.string ⟨#[]⟩) 1 16 Try.underlying79 hi.out hz0.out hz1.out hz2.out rfl (by decide) _ xl.length _ (by rfl) hcut.out.rx 1 (by rfl) rfl (by simp [Value.oneCell']) (by have := hxl.out; unfold maxLen; omega) (by have := hxl.out; omega) hBw2.out ?_; intro v7 w7 hr7 hg7 hl7; have hT7 := hcut.out.addX hr7 hg7 hl7; rw [← hxn2.out] at hT7; replace hT7 := Lib.hid hT7; replace hr7 := Lib.hid hr7; replace hg7 := Lib.hid hg7; replace hl7 := Lib.hid hl7)
                    | fail)
                  go_wp2
                  go_roundg (n - (i + 1) + 1)
                  case rel => exact ⟨i + 1, rfl, by rw [nn_succ hlt (by have := hn96.out; omega)], hlt, Lib.hid (by rw [hkn2.out]; exact hT7.out)⟩
                  case measure => exact nn_down2 hlt
                | false =>
                  have hxn2 : textsN (ns.take (i + 1)) = xl := by rw [hxn.out, if_neg (by unfold said; rw [h2]; simp), List.append_nil]
                  replace hxn2 := Lib.hid hxn2
                  replace h1 := Lib.hid h1
                  have hTz : Hid (TwoS w3 wc (.slice ko2 kl2.length kc2) (.slice xo xl.length xc) (keysFrom f 0 (ns.take (i + 1))) (textsN (ns.take (i + 1)))) := Lib.hid (by rw [hkn2.out, hxn2.out]; exact hcut.out)
                  go_wp2
                  go_roundg (n - (i + 1) + 1)
                  case rel => exact ⟨i + 1, rfl, by rw [nn_succ hlt (by have := hn96.out; omega)], hlt, hTz⟩
                  case measure => exact nn_down2 hlt
            · have h1b : (nk == 1) = false := by rw [beq_eq_false_iff_ne]; exact h1
              have hxn2 : textsN (ns.take (i + 1)) = xl := by rw [hxn.out, if_neg (by simp [h1]), List.append_nil]
              replace hxn2 := Lib.hid hxn2
              replace h1 := Lib.hid h1
              have hTz : Hid (TwoS w3 wc (.slice ko2 kl2.length kc2) (.slice xo xl.length xc) (keysFrom f 0 (ns.take (i + 1))) (textsN (ns.take (i + 1)))) := Lib.hid (by rw [hkn2.out, hxn2.out]; exact hcut.out)
              go_wp2
              go_roundg (n - (i + 1) + 1)
              case rel => exact ⟨i + 1, rfl, by rw [nn_succ hlt (by have := hn96.out; omega)], hlt, hTz⟩
              case measure => exact nn_down2 hlt
        · have k0 := nn_ge hlt
          have k1 : decide (i < n) = false := decide_eq_false hlt
          have hkl2 : kl = kOf l := by rw [hkle, List.take_of_length_le (by rw [← hnn.out]; omega), hf.out, ← hk.out]; rfl
          have hxl2 : xl = xOf l := by rw [hxle, List.take_of_length_le (by rw [← hnn.out]; omega), ← hx.out]
          obtain ⟨w4, hw4⟩ : ∃ w4, w4 = wr := ⟨_, rfl⟩
          subst hw4
          have hT1 := Lib.hid (TwoS.nil w4)
          replace hkle := Lib.hid hkle
          replace hxle := Lib.hid hxle
          replace hil := Lib.hid hil
          replace hkl := Lib.hid hkl
          replace hxl := Lib.hid hxl
          replace hlt := Lib.hid hlt
          replace hkl2 := Lib.hid hkl2
          replace hxl2 := Lib.hid hxl2
          replace hT := Lib.hid hT
          go_wp2
          go_loopg [7, 8, 13] (l.length + 1) (fun gg kv xv iv wx => ∃ i : Nat, gg = l.length - i + 1 ∧ iv = .int .i64 i ∧ i ≤ l.length ∧ Hid (TwoS w4 wx kv xv (kOf (l.take i)) (xOf (l.take i))))
          case atStart => exact ⟨0, rfl, rfl, Nat.zero_le _, hT1⟩
          case round =>
            obtain ⟨i, rfl, rfl, hil, hQ⟩ := hrel
            have hql : (kOf (l.take i)).length ≤ l.length := by have h1 := kOf_len (l.take i); have h2 := List.length_take_le i l; omega
            have hyl : (xOf (l.take i)).length ≤ l.length := by have h1 := xOf_len (l.take i); have h2 := List.length_take_le i l; omega
            obtain ⟨ql, hqle⟩ : ∃ ql, ql = kOf (l.take i) := ⟨_, rfl⟩
            obtain ⟨yl, hyle⟩ : ∃ yl, yl = xOf (l.take i) := ⟨_, rfl⟩
            rw [← hqle] at hQ hql
            rw [← hyle] at hQ hyl
            obtain ⟨qo, qc, rfl⟩ := ownsRow_shape hQ.out.rk
            obtain ⟨yo, yc, rfl⟩ := ownsRow_shape hQ.out.rx
            by_cases hlt : i < l.length
            · have k0 := nn_lt hlt
              obtain ⟨t, ht⟩ : ∃ t, l[i]? = some t := ⟨_, List.getElem?_eq_getElem hlt⟩
              have hkww : kb < w.heap.size := by rcases hkw.out with h | h; exact h; rw [h] at ht; simp at ht
              have tww : Tch No w w4 := hMf.out.t.trans hT.out.t (fun _ h => h.elim)
              obtain ⟨off5, rfl, _, d0, d1, d2, d3, d4⟩ := (tk.out.keep ((tww.trans hQ.out.t (fun _ h => h.elim)).block kb hkww id)).at ht
              have hts := take_snoc ht
              have hkn : kOf (l.take (i + 1)) = ql ++ (if t.kind = 3 then [t.text] else []) := by rw [hts, kOf_snoc, ← hqle]
              have hxn : xOf (l.take (i + 1)) = yl ++ (if (decide (t.kind = 4) && said t.text t.quoted) = true then [t.text] else []) := by rw [hts, xOf_snoc, ← hyle]
              have hBw := Lib.hid hQ.out.t.size
              obtain ⟨tk0, tln, tcol, tx, tq⟩ := t
              dsimp only at d0 d3 d4 hkn hxn
              obtain ⟨fi, hfi⟩ : ∃ fi, fi = (tk0 == 3) := ⟨_, rfl⟩
              have hfi2 : (if tk0 = 3 then [tx] else ([] : List ByteArray)) = if fi then [tx] else [] := by rw [hfi]; simp
              rw [hfi2] at hkn
              replace hqle := Lib.hid hqle
              replace hyle := Lib.hid hyle
              replace ht := Lib.hid ht
              replace hts := Lib.hid hts
              replace hkn := Lib.hid hkn
              replace hxn := Lib.hid hxn
              replace hil := Lib.hid hil
              replace hkww := Lib.hid hkww
              replace tww := Lib.hid tww
              replace hql := Lib.hid hql
              replace hyl := Lib.hid hyl
              replace hfi2 := Lib.hid hfi2
              replace hfi := Lib.hid hfi
              go_upto_if 107 with fail
              go_cut [7] (fun kq wx => Hid (TwoS w4 wx kq (.slice yo yl.length yc) (ql ++ (if fi then [tx] else [])) yl))
              case first =>
                cases fi with
                | true =>
                  have hfj : (tk0 == 3) = true := hfi.out.symm
                  go_wp2_with (first
                    | (at_builtin; refine wp_append_us rfl _ _ 79 (by rfl) w4.heap.size 9 i0 (.string ⟨#[]⟩) 1 16 Try.underlying79 hi.out hz0.out hz1.out hz2.out rfl (by decide) _ ql.length _ (by rfl) hQ.out.rk 1 (by rfl) rfl (by simp [Value.oneCell']) (by have := hql.out; have := hll.out; unfold maxLen; omega) (by have := hql.out; have := hll.out; omega) hBw.out ?_; intro v7 w7 hr7 hg7 hl7; have hT7 := Lib.hid (hQ.out.addK hr7 hg7 hl7); replace hr7 := Lib.hid hr7; replace hg7 := Lib.hid hg7; replace hl7 := Lib.hid hl7)
                    | fail)
                  go_meet
                  exact hT7
                | false =>
                  have hfj : (tk0 == 3) = false := hfi.out.symm
                  go_wp2
                  go_meet
                  exact Lib.hid (by simpa using hQ.out)
              case rest =>
                clear d0 d1 d2 d3 d4
                obtain ⟨off6, eo, _, d0, _, _, d3, d4⟩ := (tk.out.keep ((tww.out.trans hcut.out.t (fun _ h => h.elim)).block kb hkww.out id)).at ht.out
                cases eo
                dsimp only at d0 d3 d4
                obtain ⟨ql2, hql2⟩ : ∃ ql2, ql2 = ql ++ (if fi then [tx] else []) := ⟨_, rfl⟩
                have hkn2 : kOf (l.take (i + 1)) = ql2 := by rw [hkn.out, hql2]
                rw [← hql2] at hcut
                obtain ⟨qo2, qc2, rfl⟩ := ownsRow_shape hcut.out.rk
                have hBw2 := Lib.hid hcut.out.t.size
                replace hql2 := Lib.hid hql2
                replace hkn2 := Lib.hid hkn2
                by_cases h1 : tk0 = 4
                · have h1b : (tk0 == 4) = true := by rw [beq_iff_eq]; exact h1
                  cases h2 : (tx.toList == []) with
                  | false =>
                    have hxn2 : xOf (l.take (i + 1)) = yl ++ [tx] := by rw [hxn.out, if_pos (by unfold said; rw [h2]; simp [h1])]
                    replace hxn2 := Lib.hid hxn2
                    replace h1 := Lib.hid h1
                    go_upto_region 20 with (first
                      | (at_builtin; refine wp_append_us rfl _ _ 79 (by rfl) w4.heap.size 9 i0 (.string ⟨#[]⟩) 1 16 Try.underlying79 hi.out hz0.out hz1.out hz2.out rfl (by decide) _ yl.length _ (by rfl) hcut.out.rx 1 (by rfl) rfl (by simp [Value.oneCell']) (by have := hyl.out; have := hll.out; unfold maxLen; omega) (by have := hyl.out; have := hll.out; omega) hBw2.out ?_; intro v7 w7 hr7 hg7 hl7; have hT7 := hcut.out.addX hr7 hg7 hl7; rw [← hxn2.out] at hT7; replace hT7 := Lib.hid hT7; replace hr7 := Lib.hid hr7; replace hg7 := Lib.hid hg7; replace hl7 := Lib.hid hl7)
                      | fail)
                    go_wp2
                    go_roundg (l.length - (i + 1) + 1)
                    case rel => exact ⟨i + 1, rfl, by rw [nn_succ hlt (by have := hll.out; omega)], hlt, Lib.hid (by rw [hkn2.out]; exact hT7.out)⟩
                    case measure => exact nn_down2 hlt
                  | true =>
                    cases tq with
                    | true =>
                      have hxn2 : xOf (l.take (i + 1)) = yl ++ [tx] := by rw [hxn.out, if_pos (by unfold said; rw [h2]; simp [h1])]
                      replace hxn2 := Lib.hid hxn2
                      replace h1 := Lib.hid h1
                      go_upto_region 20 with (first
                        | (at_builtin; refine wp_append_us rfl _ _ 79 (by rfl) w4.heap.size 9 i0 (.string ⟨#[]⟩) 1 16 Try.underlying79 hi.out hz0.out hz1.out hz2.out rfl (by decide) _ yl.length _ (by rfl) hcut.out.rx 1 (by rfl) rfl (by simp [Value.oneCell']) (by have := hyl.out; have := hll.out; unfold maxLen; omega) (by have := hyl.out; have := hll.out; omega) hBw2.out ?_; intro v7 w7 hr7 hg7 hl7; have hT7 := hcut.out.addX hr7 hg7 hl7; rw [← hxn2.out] at hT7; replace hT7 := Lib.hid hT7; replace hr7 := Lib.hid hr7; replace hg7 := Lib.hid hg7; replace hl7 := Lib.hid hl7)
                        | fail)
                      go_wp2
                      go_roundg (l.length - (i + 1) + 1)
                      case rel => exact ⟨i + 1, rfl, by rw [nn_succ hlt (by have := hll.out; omega)], hlt, Lib.hid (by rw [hkn2.out]; exact hT7.out)⟩
                      case measure => exact nn_down2 hlt
                    | false =>
                      have hxn2 : xOf (l.take (i + 1)) = yl := by rw [hxn.out, if_neg (by unfold said; rw [h2]; simp), List.append_nil]
                      replace hxn2 := Lib.hid hxn2
                      replace h1 := Lib.hid h1
                      have hTz : Hid (TwoS w4 wc (.slice qo2 ql2.length qc2) (.slice yo yl.length yc) (kOf (l.take (i + 1))) (xOf (l.take (i + 1)))) := Lib.hid (by rw [hkn2.out, hxn2.out]; exact hcut.out)
                      go_wp2
                      go_roundg (l.length - (i + 1) + 1)
                      case rel => exact ⟨i + 1, rfl, by rw [nn_succ hlt (by have := hll.out; omega)], hlt, hTz⟩
                      case measure => exact nn_down2 hlt
                · have h1b : (tk0 == 4) = false := by rw [beq_eq_false_iff_ne]; exact h1
                  have hxn2 : xOf (l.take (i + 1)) = yl := by rw [hxn.out, if_neg (by simp [h1]), List.append_nil]
                  replace hxn2 := Lib.hid hxn2
                  replace h1 := Lib.hid h1
                  have hTz : Hid (TwoS w4 wc (.slice qo2 ql2.length qc2) (.slice yo yl.length yc) (kOf (l.take (i + 1))) (xOf (l.take (i + 1)))) := Lib.hid (by rw [hkn2.out, hxn2.out]; exact hcut.out)
                  go_wp2
                  go_roundg (l.length - (i + 1) + 1)
                  case rel => exact ⟨i + 1, rfl, by rw [nn_succ hlt (by have := hll.out; omega)], hlt, hTz⟩
                  case measure => exact nn_down2 hlt
            · have k0 := nn_ge hlt
              have k1 : decide (i < l.length) = false := decide_eq_false hlt
              have e1 : ql = kl := by rw [hqle, List.take_of_length_le (by omega), hkl2.out]
              have e2 : yl = xl := by rw [hyle, List.take_of_length_le (by omega), hxl2.out]
              subst e1
              subst e2
              have hS1 := same_eq (ownsRow_tch hT.out.rk hQ.out.t (fun _ _ h => h)) hQ.out.rk (by have := hll.out; omega)
              have hS2 : ∀ q, Calls Try.prog 40 #[.slice xo yl.length xc, .slice yo yl.length yc] (wr.drewN q) fun e w' => e = .returned (.bool true) ∧ ∃ q2, w' = (wr.drewN q).drewN q2 := fun q => same_eq (ownsRow_tch (ownsRow_tch hT.out.rx hQ.out.t (fun _ _ h => h)) (Tch.drewN No wr q) (fun _ _ h => h)) (ownsRow_tch hQ.out.rx (Tch.drewN No wr q) (fun _ _ h => h)) (by have := hll.out; omega)
              have tfin : Tch No w wr := (hMf.out.t.trans hT.out.t (fun _ h => h.elim)).trans hQ.out.t (fun _ h => h.elim)
              replace hqle := Lib.hid hqle
              replace hyle := Lib.hid hyle
              replace hil := Lib.hid hil
              replace hql := Lib.hid hql
              replace hyl := Lib.hid hyl
              replace hlt := Lib.hid hlt
              replace hS1 := Lib.hid hS1
              replace hS2 := Lib.hid hS2
              replace tfin := Lib.hid tfin
              go_wp2_with (first
                | (go_at_call 40; (with_reducible refine hS1.out.mono ?_); rintro e w5 ⟨rfl, q5, rfl⟩; have hS3 := Lib.hid (hS2.out q5); clear hS1)
                | (go_at_call 40; (with_reducible refine hS3.out.mono ?_); rintro e w6 ⟨rfl, q6, rfl⟩)
                | fail)
              go_ret
              exact ⟨rfl, tfin.out.trans (Tch.drewN No wr (q5 + q6)) (fun _ h => h.elim)⟩
end Go.Proofs.Ytcnjmkjfgghgoaa
end
